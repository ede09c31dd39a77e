/- Contracts of the drawn arguments of rounding. -/
import Derived.Test.YtmmbdkllolhfhaaDoorDraw
namespace Go.Proofs.YtmmbdkllolhfhaaDoor
set_option linter.unusedVariables false
open Go.RowKit

/-- two numbers are drawn -/
def DrawII (w : World) (g P : Nat) (Q : Int → Int → Prop) (e : Ending) (w' : World) : Prop :=
  ∃ x y : Int, e = .returned (.tuple #[.int .i64 x, .int .i64 y]) ∧ Q x y ∧ IsRdB w' g P ∧ w.grownBy w' (some g)
theorem ne_of_new {w : World} {g n c : Nat} (h : g < w.heap.size) : ∀ a l k, Value.slice (some ⟨w.heap.size, 0, none⟩) n c = .slice (some a) l k → a.block ≠ g := by
  intro a l k e
  simp only [Value.slice.injEq, Option.some.injEq] at e
  obtain ⟨rfl, _, _⟩ := e
  show w.heap.size ≠ g
  omega
theorem DrawI.mono {w w' : World} {g P P' : Nat} {Q : Int → Prop} {e : Ending} (h : DrawI w g P Q e w') (hp : P ≤ P') : DrawI w g P' Q e w' := let ⟨x, a, b, c, d⟩ := h; ⟨x, a, b, c.mono hp, d⟩

/-- a drawn element of a written list -/
theorem d_numlit (g P : Nat) (xs : List Int) (w : World) (h : IsRdB w g P) (hp : P ≤ 1000000) (hl : 0 < xs.length) (hl' : xs.length ≤ 1000) :
    Calls Tryd.prog 64 #[.pointer (some ⟨g, 0, none⟩), .slice (some ⟨w.heap.size, 0, none⟩) xs.length xs.length] (w.alloc (.cells (xs.map (Value.int .i64)).toArray 3)) (DrawI w g (P + 1) fun x => x ∈ xs) :=
  (c_num g P _ xs _ (h.alloc _) hp (RdI_lit w xs 3 xs.length) hl hl' (ne_of_new h.lt)).mono fun _ _ ⟨x, a, b, c, d⟩ => ⟨x, a, b, c, grownBy_trans (World.grownBy_alloc _ _ _) d⟩

set_option maxRecDepth 100000 in
theorem c_l6Number (g P : Nat) (w : World) (h : IsRdB w g P) (hp : P ≤ 900000) :
    Calls Tryd.prog 44 #[.pointer (some ⟨g, 0, none⟩)] w (DrawI w g (P + 5) fun _ => True) := by
  go_enter Tryd.func44, Tryd.ntmps44
  go_wp2_with fail
  refine (d_pick g P _ w h (by omega)).mono ?_
  rintro e w1 ⟨x, rfl, ⟨hx0, hx1⟩, hr1, hg1⟩
  have hc : x = 0 ∨ x = 1 ∨ x = 2 ∨ (x ≠ 0 ∧ x ≠ 1 ∧ x ≠ 2) := by omega
  rcases hc with hx | hx | hx | ⟨q0, q1, q2⟩
  · subst hx
    go_wp2_with fail
    refine (d_numlit g (P + 1) [0, 5, -5, 15, 25, -15, -25, 50, 150, 1000000000, 1000000001, -1000000000, -1000000001, 9223372036854775807, -9223372036854775808] w1 hr1 (by omega) (by decide) (by decide)).mono ?_
    rintro e w2 ⟨y, rfl, hy, hr2, hg2⟩
    clear hy
    have HO : Hid (IsRdB w2 g (P + 5) ∧ w.grownBy w2 (some g)) := ⟨hr2.mono (by omega), grownBy_trans hg1 hg2⟩
    go_wp2
    go_ret
    exact ⟨_, rfl, trivial, HO.out.1, HO.out.2⟩
  · subst hx
    go_wp2_with fail
    refine (d_pick g (P + 1) _ w1 hr1 (by omega)).mono ?_
    rintro e w2 ⟨y, rfl, hy, hr2, hg2⟩
    go_wp2_with fail
    refine (d_pick g (P + 2) _ w2 hr2 (by omega)).mono ?_
    rintro e w3 ⟨z, rfl, hz, hr3, hg3⟩
    have HO : Hid (IsRdB w3 g (P + 5) ∧ w.grownBy w3 (some g)) := ⟨hr3.mono (by omega), grownBy_trans (grownBy_trans hg1 hg2) hg3⟩
    go_wp2
    go_ret
    exact ⟨_, rfl, trivial, HO.out.1, HO.out.2⟩
  · subst hx
    go_wp2_with fail
    refine (d_pick g (P + 1) _ w1 hr1 (by omega)).mono ?_
    rintro e w2 ⟨y, rfl, hy, hr2, hg2⟩
    have HO : Hid (IsRdB w2 g (P + 5) ∧ w.grownBy w2 (some g)) := ⟨hr2.mono (by omega), grownBy_trans hg1 hg2⟩
    go_wp2
    go_ret
    exact ⟨_, rfl, trivial, HO.out.1, HO.out.2⟩
  · have q0 : (x == 0) = false := beq_eq_false_iff_ne.2 q0
    have q1 : (x == 1) = false := beq_eq_false_iff_ne.2 q1
    have q2 : (x == 2) = false := beq_eq_false_iff_ne.2 q2
    go_wp2_with fail
    refine (d_pick g (P + 1) _ w1 hr1 (by omega)).mono ?_
    rintro e w2 ⟨y, rfl, hy, hr2, hg2⟩
    go_wp2_with fail
    refine (d_pick g (P + 2) _ w2 hr2 (by omega)).mono ?_
    rintro e w3 ⟨z, rfl, hz, hr3, hg3⟩
    go_wp2_with fail
    refine (d_pick g (P + 3) _ w3 hr3 (by omega)).mono ?_
    rintro e w4 ⟨u, rfl, hu, hr4, hg4⟩
    go_wp2_with fail
    refine (d_pick g (P + 4) _ w4 hr4 (by omega)).mono ?_
    rintro e w5 ⟨v, rfl, hv, hr5, hg5⟩
    have HO : Hid (IsRdB w5 g (P + 5) ∧ w.grownBy w5 (some g)) := ⟨hr5, grownBy_trans (grownBy_trans (grownBy_trans (grownBy_trans hg1 hg2) hg3) hg4) hg5⟩
    go_wp2
    go_ret
    exact ⟨_, rfl, trivial, HO.out.1, HO.out.2⟩

def DrawRR (w : World) (e : Ending) (w' : World) : Prop := ∃ n d way : Int, e = .returned (.tuple #[.int .i64 n, .int .i64 d, .int .i64 way]) ∧ (-1 ≤ d ∧ d ≤ 7) ∧ Below w.heap.size w w'
end Go.Proofs.YtmmbdkllolhfhaaDoor
