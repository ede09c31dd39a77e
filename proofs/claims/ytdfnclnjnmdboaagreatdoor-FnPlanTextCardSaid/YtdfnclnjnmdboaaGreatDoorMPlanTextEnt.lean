/- Lemmas and contracts for PlanText (Ent): plain words on memory, contracts of the functions that the law reaches. No condition but what each states. -/
import Derived.Test.YtdfnclnjnmdboaaGreatDoorMPlanTextDraw
import Derived.Test.YtdfnclnjnmdboaaGreatDoorRTab
import Derived.Test.YtdfnclnjnmdboaaGreatDoorApp2
import Derived.Test.YtdfnclnjnmdboaaGreatDoorSapp
namespace Go.Proofs.YtdfnclnjnmdboaaGreatDoor
set_option linter.unusedVariables false
open Go.RowKit

/-- a source stays where nothing up to its block turns -/
theorem IsRdB.below {w w' : World} {g P : Nat} (h : IsRdB w g P) (hb : Below (g + 1) w w') : IsRdB w' g P := by
  obtain ⟨p, h1, v, cs, h2, h3, h4, h5, h6⟩ := h
  refine ⟨p, h1, v, cs, by rw [hb.block g (by omega)]; exact h2, ?_, h4, h5, h6⟩
  obtain ⟨a, cap, rfl, h7⟩ := h3
  refine ⟨a, cap, rfl, ?_⟩
  rcases h7 with h7 | ⟨b, off, rfl, hlt, h7⟩
  · exact .inl h7
  · rcases h6 with rfl | h6
    · exact .inl rfl
    · have hbg : b < g := h6 _ _ _ rfl
      exact .inr ⟨b, off, rfl, by have := hb.size; omega, fun i hi => by rw [hb.cell (p := ⟨b, off + i, none⟩) (by show b < _; omega)]; exact h7 i hi⟩
/-- a row of numbers is drawn: the source's block alone is written, the row is new -/
def DrawRow (w : World) (g P : Nat) (Q : List Int → Prop) (e : Ending) (w' : World) : Prop :=
  ∃ v xs, e = .returned v ∧ OwnI w' w.heap.size v xs ∧ Q xs ∧ IsRdB w' g P ∧ w.grownBy w' (some g)

end Go.Proofs.YtdfnclnjnmdboaaGreatDoor
