/- Contracts: the greatest error of a rounded table, program and reference. -/
import Derived.Test.YtmmbdkllolhfhaaDoorRTab
import Derived.Deep.RegionHeld3
import Derived.Deep.QuietTactic
import Derived.BigQuiet
import Derived.WalkSmall
import Derived.WalkLawsBesides
namespace Go.Proofs.YtmmbdkllolhfhaaDoor
set_option linter.unusedVariables false
open Go.RowKit

theorem max3 (g dd : Int) : (if (if g < dd then dd else g) < -dd then -dd else if g < dd then dd else g) = max g (max dd (-dd)) := by
  (repeat' split) <;> omega
theorem max3b (g dd : Int) : (if g < if -dd < dd then dd else -dd then if -dd < dd then dd else -dd else g) = max g (max dd (-dd)) := by
  (repeat' split) <;> omega
theorem ret_int' {k : IntKind} {a b : Int} (h : a = b) : Value.int k a = Value.int k b := by rw [h]
/-- the greatest error of the first k entries, in units of p -/
def errS (xs : List Int) (p way : Int) : Nat → Int
  | 0 => 0
  | k + 1 => max (errS xs p way k) (max (xs.getD k 0 - rndF (xs.getD k 0) p way * p) (-(xs.getD k 0 - rndF (xs.getD k 0) p way * p)))
def errR (xs : List Int) (d way : Int) : Int := if rtB xs d way = true then errS xs (ten d.toNat) way xs.length else -1
theorem errS_bd {xs : List Int} {k n : Nat} {way : Int} (h : allIn xs 1000000000 = true) (hk : k ≤ xs.length) (hn : n ≤ 6) (hw0 : 0 ≤ way) (hw2 : way ≤ 2) : 0 ≤ errS xs (ten n) way k ∧ errS xs (ten n) way k ≤ 2001000000 := by
  induction k with
  | zero => simp [errS]
  | succ k ih =>
    have ih := ih (by omega)
    have hx := allIn_get h (show k < xs.length by omega)
    obtain ⟨hp1, hp6⟩ := ten6 hn
    obtain ⟨x, q, y, HX, HQ, HY, hq, g1, g2, g3, g4, g5, g6, g7, E⟩ := rnd_setup (way := way) hp1 hp6 hx.1 hx.2
    obtain ⟨f1, f2, f3, f4, f5⟩ := div_facts (p := ten n) hp1 hx.1 hx.2
    have e2 : q * ten n = xs.getD k 0 - x := by rw [← HQ.out, Int.mul_comm, ← f3, HX.out]
    have hr : rndF (xs.getD k 0) (ten n) way = q ∨ rndF (xs.getD k 0) (ten n) way = q + 1 := by
      rw [E.out]; (repeat' split) <;> simp
    have e3 : (q + 1) * ten n = xs.getD k 0 - x + ten n := by rw [Int.add_mul, e2]; omega
    unfold errS
    rcases hr with hr | hr
    · rw [hr, e2]; omega
    · rw [hr, e3]; omega
theorem err_entry {xs : List Int} {k n : Nat} {way : Int} (h : allIn xs 1000000000 = true) (hk : k < xs.length) (hn : n ≤ 6) (hw0 : 0 ≤ way) (hw2 : way ≤ 2) :
    ∃ t dd, rndF (xs.getD k 0) (ten n) way * ten n = t ∧ -1002000000 ≤ t ∧ t ≤ 1002000000 ∧ xs.getD k 0 - t = dd ∧ -1000000 ≤ dd ∧ dd ≤ 1000000 := by
  have hx := allIn_get h hk
  obtain ⟨hp1, hp6⟩ := ten6 hn
  obtain ⟨x, q, y, HX, HQ, HY, hq, g1, g2, g3, g4, g5, g6, g7, E⟩ := rnd_setup (way := way) hp1 hp6 hx.1 hx.2
  obtain ⟨f1, f2, f3, f4, f5⟩ := div_facts (p := ten n) hp1 hx.1 hx.2
  have e2 : q * ten n = xs.getD k 0 - x := by rw [← HQ.out, Int.mul_comm, ← f3, HX.out]
  have hr : rndF (xs.getD k 0) (ten n) way = q ∨ rndF (xs.getD k 0) (ten n) way = q + 1 := by
    rw [E.out]; (repeat' split) <;> simp
  have e3 : (q + 1) * ten n = xs.getD k 0 - x + ten n := by rw [Int.add_mul, e2]; omega
  refine ⟨rndF (xs.getD k 0) (ten n) way * ten n, xs.getD k 0 - rndF (xs.getD k 0) (ten n) way * ten n, rfl, ?_⟩
  rcases hr with hr | hr
  · rw [hr, e2]; exact ⟨by omega, by omega, rfl, by omega, by omega⟩
  · rw [hr, e3]; exact ⟨by omega, by omega, rfl, by omega, by omega⟩

end Go.Proofs.YtmmbdkllolhfhaaDoor
