/- Plain facts on rounded numbers. No condition; no program in sight but the numbers' contracts' own functions. -/
import Derived.Test.YtihgbebdadpjaaaDraw6
namespace Go.Proofs.Ytihgbebdadpjaaa
set_option linter.unusedVariables false
open Go.RowKit

theorem tmod2 {q : Int} (h : q % 2 = 0) : q.tmod 2 = 0 := by
  rcases tmod_cases q 2 (by omega) with ⟨_, h2, _⟩ | ⟨_, h2, _⟩ <;> omega
theorem rnd_bounds {n way : Int} {k : Nat} (hn : -1000000000 ≤ n) (hm : n ≤ 1000000000) (hk : k ≤ 6) (hw0 : 0 ≤ way) (hw2 : way ≤ 2) :
    ∃ p m t dd : Int, Hid (ten k = p) ∧ Hid (rndF n p way = m) ∧ m * p = t ∧ n - t = dd ∧ 1 ≤ p ∧ p ≤ 1000000 ∧ -1000000001 ≤ m ∧ m ≤ 1000000001 ∧ -1001000000 ≤ t ∧ t ≤ 1001000000 ∧
      ((way = 0 ∧ 0 ≤ dd ∧ dd < p) ∨ ((way = 1 ∨ way = 2) ∧ 2 * dd < p ∧ -p < 2 * dd) ∨ (way = 1 ∧ n < 0 ∧ 2 * dd = p) ∨ (way = 1 ∧ 0 < n ∧ 2 * dd = -p) ∨ (way = 2 ∧ 2 * dd = p ∧ m.tmod 2 = 0) ∨ (way = 2 ∧ 2 * dd = -p ∧ m.tmod 2 = 0)) := by
  obtain ⟨hp1, hp6⟩ := ten6 hk
  refine ⟨ten k, rndF n (ten k) way, _, _, rfl, rfl, rfl, rfl, hp1, hp6, ?_⟩
  generalize ten k = p at hp1 hp6
  obtain ⟨f1, f2, f3, f4, f5⟩ := div_facts (p := p) hp1 hn hm
  obtain ⟨x, q, y, HX, HQ, HY, hq, g1, g2, g3, g4, g5, g6, g7, E⟩ := rnd_setup (way := way) hp1 hp6 hn hm
  have e1 : n - x = p * q := by rw [← HX.out, ← HQ.out]; exact f3
  have e2 : q * p = n - x := by rw [e1, Int.mul_comm]
  have e3 : (q + 1) * p = n - x + p := by rw [Int.add_mul, e2]; omega
  rcases rnd_cases hw0 hw2 g5 g6 g7 with h | ⟨h, h2⟩ | ⟨h, h2, h3⟩ | ⟨h, h2, h3, h4⟩ | ⟨h, h2, h3, h4⟩ | ⟨h, h2, h3, h4⟩ | ⟨h, h2, h3, h4⟩
  · have e : rndF n p way = q := by rw [E.out, if_pos (by omega)]
    rw [e, e2]; exact ⟨by omega, by omega, by omega, by omega, .inl ⟨h, by omega, by omega⟩⟩
  · have e : rndF n p way = q := by rw [E.out, if_pos (by omega)]
    rw [e, e2]; exact ⟨by omega, by omega, by omega, by omega, .inr (.inl ⟨h, by omega, by omega⟩)⟩
  · have e : rndF n p way = q + 1 := by rw [E.out, if_neg (by omega), if_pos (by omega)]
    rw [e, e3]; exact ⟨by omega, by omega, by omega, by omega, .inr (.inl ⟨h, by omega, by omega⟩)⟩
  · have e : rndF n p way = q := by rw [E.out, if_neg (by omega), if_neg (by omega), if_pos (by omega)]
    rw [e, e2]; exact ⟨by omega, by omega, by omega, by omega, .inr (.inr (.inl ⟨h, h4, by omega⟩))⟩
  · have e : rndF n p way = q + 1 := by rw [E.out, if_neg (by omega), if_neg (by omega), if_neg (by omega)]
    rw [e, e3]; exact ⟨by omega, by omega, by omega, by omega, .inr (.inr (.inr (.inl ⟨h, h4, by omega⟩)))⟩
  · have e : rndF n p way = q := by rw [E.out, if_neg (by omega), if_neg (by omega), if_pos (by omega)]
    have ht : q.tmod 2 = 0 := tmod2 (by rw [HY.out]; exact h4)
    rw [e, e2]; exact ⟨by omega, by omega, by omega, by omega, .inr (.inr (.inr (.inr (.inl ⟨h, by omega, ht⟩))))⟩
  · have e : rndF n p way = q + 1 := by rw [E.out, if_neg (by omega), if_neg (by omega), if_neg (by omega)]
    have ht : (q + 1).tmod 2 = 0 := tmod2 (by have := HY.out; omega)
    rw [e, e3]; exact ⟨by omega, by omega, by omega, by omega, .inr (.inr (.inr (.inr (.inr ⟨h, by omega, ht⟩))))⟩
theorem rndB_iff {n d way : Int} : rndB n d way = true ↔ -1000000000 ≤ n ∧ n ≤ 1000000000 ∧ 0 ≤ d ∧ d ≤ 6 ∧ 0 ≤ way ∧ way ≤ 2 := by simp [rndB]
theorem Below.refl' (w : World) : Below w.heap.size w w := Below.refl _ _
end Go.Proofs.Ytihgbebdadpjaaa
