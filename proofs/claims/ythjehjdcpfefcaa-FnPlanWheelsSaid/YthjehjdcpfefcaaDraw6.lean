/- Contracts of the drawn arguments of rounding. -/
import Derived.Test.YthjehjdcpfefcaaDraw
namespace Go.Proofs.Ythjehjdcpfefcaa
set_option linter.unusedVariables false
open Go.RowKit

/-- two numbers are drawn -/
def DrawII (w : World) (g P : Nat) (Q : Int → Int → Prop) (e : Ending) (w' : World) : Prop :=
  ∃ x y : Int, e = .returned (.tuple #[.int .i64 x, .int .i64 y]) ∧ Q x y ∧ IsRdB w' g P ∧ w.grownBy w' (some g)
theorem ne_of_new {w : World} {g n c : Nat} (h : g < w.heap.size) : ∀ a l k, Value.slice (some ⟨w.heap.size, 0, none⟩) n c = .slice (some a) l k → a.block ≠ g := by
  intro a l k e
  simp only [Value.slice.injEq, Option.some.injEq] at e
  obtain ⟨rfl, _, _⟩ := e
  show w.heap.size ≠ g
  omega
theorem DrawI.mono {w w' : World} {g P P' : Nat} {Q : Int → Prop} {e : Ending} (h : DrawI w g P Q e w') (hp : P ≤ P') : DrawI w g P' Q e w' := let ⟨x, a, b, c, d⟩ := h; ⟨x, a, b, c.mono hp, d⟩

/-- a drawn element of a written list -/
theorem d_numlit (g P : Nat) (xs : List Int) (w : World) (h : IsRdB w g P) (hp : P ≤ 1000000) (hl : 0 < xs.length) (hl' : xs.length ≤ 1000) :
    Calls Try.prog 62 #[.pointer (some ⟨g, 0, none⟩), .slice (some ⟨w.heap.size, 0, none⟩) xs.length xs.length] (w.alloc (.cells (xs.map (Value.int .i64)).toArray 3)) (DrawI w g (P + 1) fun x => x ∈ xs) :=
  (c_num g P _ xs _ (h.alloc _) hp (RdI_lit w xs 3 xs.length) hl hl' (ne_of_new h.lt)).mono fun _ _ ⟨x, a, b, c, d⟩ => ⟨x, a, b, c, grownBy_trans (World.grownBy_alloc _ _ _) d⟩

def DrawRR (w : World) (e : Ending) (w' : World) : Prop := ∃ n d way : Int, e = .returned (.tuple #[.int .i64 n, .int .i64 d, .int .i64 way]) ∧ (-1 ≤ d ∧ d ≤ 7) ∧ Below w.heap.size w w'
end Go.Proofs.Ythjehjdcpfefcaa
