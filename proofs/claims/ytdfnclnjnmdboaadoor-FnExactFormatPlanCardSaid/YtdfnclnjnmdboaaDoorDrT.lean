/- Contracts: a drawn table of a few pieces. -/
import Derived.Test.YtdfnclnjnmdboaaDoorPlan7
import Derived.Test.YtdfnclnjnmdboaaDoorEnt
namespace Go.Proofs.YtdfnclnjnmdboaaDoor
set_option linter.unusedVariables false
open Go.RowKit

theorem litI (w : World) (xs : List Int) (n : Nat) (hn : xs.length = n) (hx : n ≤ 1000) : OwnI (w.alloc (.cells (xs.map (Value.int .i64)).toArray 3)) w.heap.size (.slice (some ⟨w.heap.size, 0, none⟩) n n) xs := by
  subst hn
  exact ⟨by simp, .inr ⟨w.heap.size, xs.length, (xs.map (Value.int .i64)).toArray, rfl, Nat.le_refl _, heap_alloc_new w _, Nat.le_refl _, by simp only [maxLen]; omega, by simp, by simp [List.take_of_length_le]⟩⟩
theorem made1I (w : World) (x : Int) : OwnI (w.alloc (.cells #[.int .i64 x] 3)) w.heap.size (.slice (some ⟨w.heap.size, 0, none⟩) 1 1) [x] := litI w [x] 1 rfl (by decide)
theorem apart_new {w : World} {b e s n : Nat} {v : Value} {xs : List Value} (h : w.ownsRow b e s v n xs) (k c : Nat) : v.ownBlock = none ∨ v.ownBlock ≠ (Value.slice (some ⟨w.heap.size, 0, none⟩) k c).ownBlock := by
  cases hv : v.ownBlock with
  | none => exact .inl rfl
  | some j =>
    refine .inr (fun e => ?_)
    have := (h.lt j hv).2
    simp [Value.ownBlock] at e
    omega
theorem grown_alloc {w0 w : World} {g : Nat} (h : w0.grownBy w (some g)) (o : Obj) : w0.grownBy (w.alloc o) (some g) := grownBy_trans h (World.grownBy_alloc _ _ _)
/-- small numbers, as the drawn ones are -/
def smallC (p : List Int) : Prop := ∀ x ∈ p, -100 ≤ x ∧ x ≤ 100
theorem smallC.ok {p : List Int} (h : smallC p) (hl : p.length ≤ 7) : evalOk p := ⟨hl, fun x hx => by have := h x hx; omega⟩

end Go.Proofs.YtdfnclnjnmdboaaDoor
