/- Contracts of the drawn arguments of rounding. -/
import Derived.Test.YtihgbebdadpjaaaDraw
namespace Go.Proofs.Ytihgbebdadpjaaa
set_option linter.unusedVariables false
open Go.RowKit

/-- two numbers are drawn -/
def DrawII (w : World) (g P : Nat) (Q : Int → Int → Prop) (e : Ending) (w' : World) : Prop :=
  ∃ x y : Int, e = .returned (.tuple #[.int .i64 x, .int .i64 y]) ∧ Q x y ∧ IsRdB w' g P ∧ w.grownBy w' (some g)
theorem ne_of_new {w : World} {g n c : Nat} (h : g < w.heap.size) : ∀ a l k, Value.slice (some ⟨w.heap.size, 0, none⟩) n c = .slice (some a) l k → a.block ≠ g := by
  intro a l k e
  simp only [Value.slice.injEq, Option.some.injEq] at e
  obtain ⟨rfl, _, _⟩ := e
  show w.heap.size ≠ g
  omega
theorem DrawI.mono {w w' : World} {g P P' : Nat} {Q : Int → Prop} {e : Ending} (h : DrawI w g P Q e w') (hp : P ≤ P') : DrawI w g P' Q e w' := let ⟨x, a, b, c, d⟩ := h; ⟨x, a, b, c.mono hp, d⟩

/-- a drawn element of a written list -/
theorem d_numlit (g P : Nat) (xs : List Int) (w : World) (h : IsRdB w g P) (hp : P ≤ 1000000) (hl : 0 < xs.length) (hl' : xs.length ≤ 1000) :
    Calls Try.prog 64 #[.pointer (some ⟨g, 0, none⟩), .slice (some ⟨w.heap.size, 0, none⟩) xs.length xs.length] (w.alloc (.cells (xs.map (Value.int .i64)).toArray 3)) (DrawI w g (P + 1) fun x => x ∈ xs) :=
  (c_num g P _ xs _ (h.alloc _) hp (RdI_lit w xs 3 xs.length) hl hl' (ne_of_new h.lt)).mono fun _ _ ⟨x, a, b, c, d⟩ => ⟨x, a, b, c, grownBy_trans (World.grownBy_alloc _ _ _) d⟩

theorem c_l6Guard (g P : Nat) (w : World) (h : IsRdB w g P) (hp : P ≤ 900000) :
    Calls Try.prog 42 #[.pointer (some ⟨g, 0, none⟩)] w (DrawII w g (P + 3) fun x y => -1 ≤ x ∧ x ≤ 7 ∧ -1 ≤ y ∧ y ≤ 9223372036854775807) := by
  go_enter Try.func42, Try.ntmps42
  go_wp2_with fail
  refine (d_pick g P _ w h (by omega)).mono ?_
  rintro e w1 ⟨x, rfl, ⟨hx0, hx1⟩, hr1, hg1⟩
  by_cases hx : x = 0
  · subst hx
    go_wp2_with fail
    refine (d_numlit g (P + 1) [-1, 7, 6, 0] w1 hr1 (by omega) (by decide) (by decide)).mono ?_
    rintro e w2 ⟨y, rfl, hy, hr2, hg2⟩
    go_wp2_with fail
    refine (d_numlit g (P + 2) [-1, 3, 0, 9223372036854775807] w2 hr2 (by omega) (by decide) (by decide)).mono ?_
    rintro e w3 ⟨z, rfl, hz, hr3, hg3⟩
    have HO : Hid ((-1 ≤ y ∧ y ≤ 7 ∧ -1 ≤ z ∧ z ≤ 9223372036854775807) ∧ IsRdB w3 g (P + 3) ∧ w.grownBy w3 (some g)) := by
      refine ⟨?_, hr3, grownBy_trans (grownBy_trans hg1 hg2) hg3⟩
      simp at hy hz
      omega
    clear hy hz
    go_wp2
    go_ret2
    exact ⟨y, z, rfl, HO.out.1, HO.out.2.1, HO.out.2.2⟩
  · have hx' : (x == 0) = false := beq_eq_false_iff_ne.2 hx
    clear hx
    go_wp2_with fail
    refine (d_numlit g (P + 1) [1, 2, 3, 0] w1 hr1 (by omega) (by decide) (by decide)).mono ?_
    rintro e w2 ⟨y, rfl, hy, hr2, hg2⟩
    go_wp2_with fail
    refine (d_pick g (P + 2) _ w2 hr2 (by omega)).mono ?_
    rintro e w3 ⟨z, rfl, hz, hr3, hg3⟩
    have HO : Hid ((-1 ≤ y ∧ y ≤ 7 ∧ -1 ≤ z ∧ z ≤ 9223372036854775807) ∧ IsRdB w3 g (P + 3) ∧ w.grownBy w3 (some g)) := by
      refine ⟨?_, hr3, grownBy_trans (grownBy_trans hg1 hg2) hg3⟩
      simp at hy
      omega
    clear hy hz
    go_wp2
    go_ret2
    exact ⟨y, z, rfl, HO.out.1, HO.out.2.1, HO.out.2.2⟩

def DrawRR (w : World) (e : Ending) (w' : World) : Prop := ∃ n d way : Int, e = .returned (.tuple #[.int .i64 n, .int .i64 d, .int .i64 way]) ∧ (-1 ≤ d ∧ d ≤ 7) ∧ Below w.heap.size w w'
theorem c_deTen (k : Nat) (w : World) (hk : k ≤ 17) :
    Calls Try.prog 23 #[(.int .i64 ((k : Int)))] w fun e w' => e = .returned (.int .i64 (ten k)) ∧ w = w' := by
  go_enter Try.func23, Try.ntmps23
  go_wp2
  go_loop [3, 4] (fun p i => ∃ j : Nat, j ≤ k ∧ i = .int .i64 j ∧ p = .int .i64 (ten j)) (fun _ i => k - (intOf i).toNat)
  case atStart => exact ⟨0, by omega, rfl, rfl⟩
  case round =>
    obtain ⟨j, hj, rfl, rfl⟩ := hrel
    by_cases hlt : j < k
    · obtain ⟨h1, h2⟩ := ten_bd (k := j) (by omega)
      have e : Hid (ten (j + 1) = ten j * 10) := ten_succ j
      go_wp2
      go_round
      case rel => exact ⟨j + 1, by omega, by go_num, by rw [e.out]⟩
      case measure => simp [intOf]; omega
    · have e : Hid (ten k = ten j) := by have : j = k := by omega
                                         subst this; rfl
      go_wp2
      go_ret
      exact ⟨ret_int e.out.symm, rfl⟩
/-- a negative number of digits: one -/
theorem c_deTen_neg (d : Int) (w : World) (hd : d < 0) :
    Calls Try.prog 23 #[(.int .i64 (d))] w fun e w' => e = .returned (.int .i64 (1)) ∧ w = w' := by
  go_enter Try.func23, Try.ntmps23
  go_wp2
  refine wp_loop_rounds 1 ?_
  rw [rounds_succ]
  go_wp2
  go_ret
  exact ⟨rfl, rfl⟩
/-- for any drawn number of digits: something from 1 on -/
theorem c_deTen_any (d : Int) (w : World) (hd : -1 ≤ d) (hd' : d ≤ 7) :
    Calls Try.prog 23 #[(.int .i64 (d))] w fun e w' => e = .returned (.int .i64 (ten d.toNat)) ∧ w = w' := by
  by_cases h : d < 0
  · have h0 : ten d.toNat = 1 := by
      have : d.toNat = 0 := by omega
      rw [this]; rfl
    rw [h0]
    exact c_deTen_neg d w h
  · obtain ⟨k, rfl⟩ : ∃ k : Nat, d = k := ⟨d.toNat, by omega⟩
    simpa using c_deTen k w (by omega)
end Go.Proofs.Ytihgbebdadpjaaa
