/- Contracts of the layout functions: a layout's validity, its places, the pages that are needed, a place's index: program and reference compute the same integer functions. -/
import Derived.Test.YtdfnclnjnmdboaaGreatDoorIn1
import Derived.WalkKit
import Derived.ProofKit
import Derived.Deep.RegionHeld3
import Derived.Deep.Light
import Derived.Deep.QuietTactic
import Derived.BigQuiet
import Derived.WalkSmall
namespace Go.Proofs.YtdfnclnjnmdboaaGreatDoor
set_option linter.unusedVariables false
open Go.RowKit



theorem keep3 {w1 wa wb : World} {b : Nat} {v0 v1 v2 : Value} (hb : b < w1.heap.size) (h : Below w1.heap.size w1 wa ∧ wa.cell? ⟨b, 0, none⟩ = some v0 ∧ wa.cell? ⟨b, 1, none⟩ = some v1 ∧ wa.cell? ⟨b, 2, none⟩ = some v2) (k : Below wa.heap.size wa wb) :
    Below w1.heap.size w1 wb ∧ wb.cell? ⟨b, 0, none⟩ = some v0 ∧ wb.cell? ⟨b, 1, none⟩ = some v1 ∧ wb.cell? ⟨b, 2, none⟩ = some v2 := by
  obtain ⟨h0, h1, h2, h3⟩ := h
  have hs := h0.size
  obtain ⟨hc, _⟩ := bcell k
  exact ⟨bthen h0 k, by rw [hc _ _ (by omega)]; exact h1, by rw [hc _ _ (by omega)]; exact h2, by rw [hc _ _ (by omega)]; exact h3⟩
theorem keep3_0 {w w1 : World} {v0 v1 v2 : Value} {t : TypeId} (hb : Below (w.alloc (.cells #[v0, v1, v2] t)).heap.size (w.alloc (.cells #[v0, v1, v2] t)) w1) :
    Below w1.heap.size w1 w1.drew ∧ w1.drew.cell? ⟨w.heap.size, 0, none⟩ = some v0 ∧ w1.drew.cell? ⟨w.heap.size, 1, none⟩ = some v1 ∧ w1.drew.cell? ⟨w.heap.size, 2, none⟩ = some v2 := by
  obtain ⟨hc, _⟩ := bcell hb
  refine ⟨(Below.refl _ _).drew, ?_, ?_, ?_⟩ <;> (show w1.cell? _ = _; rw [hc _ _ (by simp)]; simp [go_sem])

theorem keep3_1 {w w1 w2 : World} {v0 v1 v2 : Value} {t : TypeId} (hb : Below (w.alloc (.cells #[v0, v1, v2] t)).heap.size (w.alloc (.cells #[v0, v1, v2] t)) w1) (hb2 : Below w1.heap.size w1 w2) :
    Below w2.heap.size w2 w2.drew ∧ w2.drew.cell? ⟨w.heap.size, 0, none⟩ = some v0 ∧ w2.drew.cell? ⟨w.heap.size, 1, none⟩ = some v1 ∧ w2.drew.cell? ⟨w.heap.size, 2, none⟩ = some v2 :=
  keep3_0 (hb.trans (hb2.mono hb.size))

def layB (r a c : Int) : Bool := decide (1 ≤ r ∧ r ≤ 20 ∧ 1 ≤ a ∧ a ≤ 6 ∧ 1 ≤ c ∧ c ≤ 12)

def pnF (r a c n : Int) : Int := if layB r a c = true ∧ 0 ≤ n ∧ n ≤ 60 then (n + r * a - 1) / (r * a) else -1
theorem lay_mul {r a c : Int} (hv : layB r a c = true) : 1 ≤ r ∧ r ≤ 20 ∧ 1 ≤ a ∧ a ≤ 6 ∧ 1 ≤ c ∧ c ≤ 12 ∧ 1 ≤ r * a ∧ r * a ≤ 120 := by
  have h : 1 ≤ r ∧ r ≤ 20 ∧ 1 ≤ a ∧ a ≤ 6 ∧ 1 ≤ c ∧ c ≤ 12 := by unfold layB at hv; simpa using hv
  obtain ⟨h1, h2, h3, h4, h5, h6⟩ := h
  have h7 : 1 * 1 ≤ r * a := Int.mul_le_mul h1 h3 (by omega) (by omega)
  have h8 : r * a ≤ 20 * 6 := Int.mul_le_mul h2 h4 (by omega) (by omega)
  omega

def plB (r a c i : Int) : Bool := layB r a c && decide (0 ≤ i ∧ i < 60)
def plP (r a c i : Int) : Int := if plB r a c i = true then i / (r * a) else 0
def plR (r a c i : Int) : Int := if plB r a c i = true then (i % (r * a)) % r else 0
def plC (r a c i : Int) : Int := if plB r a c i = true then (i % (r * a)) / r else 0

end Go.Proofs.YtdfnclnjnmdboaaGreatDoor
