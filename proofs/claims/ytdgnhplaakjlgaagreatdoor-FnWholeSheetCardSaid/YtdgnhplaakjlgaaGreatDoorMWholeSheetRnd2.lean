/- Lemmas and contracts for WholeSheet (Rnd2 ErrP): plain words on memory, contracts of the functions that the law reaches. No condition but what each states. -/
import Derived.Test.YtdgnhplaakjlgaaGreatDoorMWholeSheetRd
import Derived.Test.YtdgnhplaakjlgaaGreatDoorMWholeSheetRErr
namespace Go.Proofs.YtdgnhplaakjlgaaGreatDoor
set_option linter.unusedVariables false
open Go.RowKit

theorem tmod2 {q : Int} (h : q % 2 = 0) : q.tmod 2 = 0 := by
  rcases tmod_cases q 2 (by omega) with ⟨_, h2, _⟩ | ⟨_, h2, _⟩ <;> omega
theorem rnd_bounds {n way : Int} {k : Nat} (hn : -1000000000 ≤ n) (hm : n ≤ 1000000000) (hk : k ≤ 6) (hw0 : 0 ≤ way) (hw2 : way ≤ 2) :
    ∃ p m t dd : Int, Hid (ten k = p) ∧ Hid (rndF n p way = m) ∧ m * p = t ∧ n - t = dd ∧ 1 ≤ p ∧ p ≤ 1000000 ∧ -1000000001 ≤ m ∧ m ≤ 1000000001 ∧ -1001000000 ≤ t ∧ t ≤ 1001000000 ∧
      ((way = 0 ∧ 0 ≤ dd ∧ dd < p) ∨ ((way = 1 ∨ way = 2) ∧ 2 * dd < p ∧ -p < 2 * dd) ∨ (way = 1 ∧ n < 0 ∧ 2 * dd = p) ∨ (way = 1 ∧ 0 < n ∧ 2 * dd = -p) ∨ (way = 2 ∧ 2 * dd = p ∧ m.tmod 2 = 0) ∨ (way = 2 ∧ 2 * dd = -p ∧ m.tmod 2 = 0)) := by
  obtain ⟨hp1, hp6⟩ := ten6 hk
  refine ⟨ten k, rndF n (ten k) way, _, _, rfl, rfl, rfl, rfl, hp1, hp6, ?_⟩
  generalize ten k = p at hp1 hp6
  obtain ⟨f1, f2, f3, f4, f5⟩ := div_facts (p := p) hp1 hn hm
  obtain ⟨x, q, y, HX, HQ, HY, hq, g1, g2, g3, g4, g5, g6, g7, E⟩ := rnd_setup (way := way) hp1 hp6 hn hm
  have e1 : n - x = p * q := by rw [← HX.out, ← HQ.out]; exact f3
  have e2 : q * p = n - x := by rw [e1, Int.mul_comm]
  have e3 : (q + 1) * p = n - x + p := by rw [Int.add_mul, e2]; omega
  rcases rnd_cases hw0 hw2 g5 g6 g7 with h | ⟨h, h2⟩ | ⟨h, h2, h3⟩ | ⟨h, h2, h3, h4⟩ | ⟨h, h2, h3, h4⟩ | ⟨h, h2, h3, h4⟩ | ⟨h, h2, h3, h4⟩
  · have e : rndF n p way = q := by rw [E.out, if_pos (by omega)]
    rw [e, e2]; exact ⟨by omega, by omega, by omega, by omega, .inl ⟨h, by omega, by omega⟩⟩
  · have e : rndF n p way = q := by rw [E.out, if_pos (by omega)]
    rw [e, e2]; exact ⟨by omega, by omega, by omega, by omega, .inr (.inl ⟨h, by omega, by omega⟩)⟩
  · have e : rndF n p way = q + 1 := by rw [E.out, if_neg (by omega), if_pos (by omega)]
    rw [e, e3]; exact ⟨by omega, by omega, by omega, by omega, .inr (.inl ⟨h, by omega, by omega⟩)⟩
  · have e : rndF n p way = q := by rw [E.out, if_neg (by omega), if_neg (by omega), if_pos (by omega)]
    rw [e, e2]; exact ⟨by omega, by omega, by omega, by omega, .inr (.inr (.inl ⟨h, h4, by omega⟩))⟩
  · have e : rndF n p way = q + 1 := by rw [E.out, if_neg (by omega), if_neg (by omega), if_neg (by omega)]
    rw [e, e3]; exact ⟨by omega, by omega, by omega, by omega, .inr (.inr (.inr (.inl ⟨h, h4, by omega⟩)))⟩
  · have e : rndF n p way = q := by rw [E.out, if_neg (by omega), if_neg (by omega), if_pos (by omega)]
    have ht : q.tmod 2 = 0 := tmod2 (by rw [HY.out]; exact h4)
    rw [e, e2]; exact ⟨by omega, by omega, by omega, by omega, .inr (.inr (.inr (.inr (.inl ⟨h, by omega, ht⟩))))⟩
  · have e : rndF n p way = q + 1 := by rw [E.out, if_neg (by omega), if_neg (by omega), if_neg (by omega)]
    have ht : (q + 1).tmod 2 = 0 := tmod2 (by have := HY.out; omega)
    rw [e, e3]; exact ⟨by omega, by omega, by omega, by omega, .inr (.inr (.inr (.inr (.inr ⟨h, by omega, ht⟩))))⟩
theorem rndB_iff {n d way : Int} : rndB n d way = true ↔ -1000000000 ≤ n ∧ n ≤ 1000000000 ∧ 0 ≤ d ∧ d ≤ 6 ∧ 0 ≤ way ∧ way ≤ 2 := by simp [rndB]
theorem Below.refl' (w : World) : Below w.heap.size w w := Below.refl _ _
end Go.Proofs.YtdgnhplaakjlgaaGreatDoor

namespace Go.Proofs.YtdgnhplaakjlgaaGreatDoor
set_option linter.unusedVariables false

/-- the error of the entry k -/
def errD (xs : List Int) (p way : Int) (k : Nat) : Int := rndF (xs.getD k 0) p way * p - xs.getD k 0
theorem errS_succ (xs : List Int) (p way : Int) (k : Nat) : errS xs p way (k + 1) = max (errS xs p way k) (max (-errD xs p way k) (errD xs p way k)) := by
  unfold errD; rw [errS]
  congr 1
  omega
theorem errS_mono (xs : List Int) (p way : Int) {j k : Nat} (h : j ≤ k) : errS xs p way j ≤ errS xs p way k := by
  induction k with
  | zero => obtain rfl : j = 0 := by omega
            exact Int.le_refl _
  | succ k ih =>
    by_cases e : j = k + 1
    · rw [e]; exact Int.le_refl _
    · have := ih (by omega); rw [errS_succ]; omega
theorem errS_ge (xs : List Int) (p way : Int) {j k : Nat} (h : j < k) : errD xs p way j ≤ errS xs p way k ∧ -errD xs p way j ≤ errS xs p way k := by
  have h1 := errS_mono xs p way (show j + 1 ≤ k from h)
  rw [errS_succ] at h1
  omega
theorem errS_att (xs : List Int) (p way : Int) (k : Nat) : errS xs p way k = 0 ∨ ∃ j, j < k ∧ (errD xs p way j = errS xs p way k ∨ errD xs p way j = -errS xs p way k) := by
  induction k with
  | zero => exact .inl rfl
  | succ k ih =>
    rw [errS_succ]
    by_cases h1 : errD xs p way k = max (errS xs p way k) (max (-errD xs p way k) (errD xs p way k))
    · exact .inr ⟨k, by omega, .inl h1⟩
    by_cases h2 : errD xs p way k = -max (errS xs p way k) (max (-errD xs p way k) (errD xs p way k))
    · exact .inr ⟨k, by omega, .inr h2⟩
    have e : max (errS xs p way k) (max (-errD xs p way k) (errD xs p way k)) = errS xs p way k := by omega
    rw [e]
    rcases ih with h | ⟨j, hj, h⟩
    · exact .inl h
    · exact .inr ⟨j, by omega, h⟩
/-- the greatest error N is 0 or has been reached among the first k entries -/
def someB (xs : List Int) (p way N : Int) : Nat → Bool
  | 0 => N == 0
  | k + 1 => someB xs p way N k || errD xs p way k == N || errD xs p way k == -N
theorem someB_of {xs : List Int} {p way N : Int} {j k : Nat} (h : j < k) (he : errD xs p way j = N ∨ errD xs p way j = -N) : someB xs p way N k = true := by
  induction k with
  | zero => omega
  | succ k ih =>
    rw [someB]
    by_cases e : j = k
    · subst e
      rcases he with he | he
      · rw [beq_iff_eq.2 he]; simp
      · rw [beq_iff_eq.2 he]; simp
    · rw [ih (by omega)]; simp
theorem someB_zero {xs : List Int} {p way : Int} (k : Nat) : someB xs p way 0 k = true := by
  induction k with
  | zero => rfl
  | succ k ih => rw [someB, ih]; rfl
theorem someB_all (xs : List Int) (p way : Int) (k : Nat) : someB xs p way (errS xs p way k) k = true := by
  rcases errS_att xs p way k with h | ⟨j, hj, h⟩
  · rw [h]; exact someB_zero k
  · exact someB_of hj h
theorem err_small {xs : List Int} {n : Nat} {way : Int} (h : allIn xs 1000000000 = true) (hn : n ≤ 6) (hw0 : 0 ≤ way) (hw2 : way ≤ 2) :
    errS xs (ten n) way xs.length < ten n ∧ (way = 0 ∨ 2 * errS xs (ten n) way xs.length ≤ ten n) := by
  have hp : 1 ≤ ten n := (ten6 hn).1
  rcases errS_att xs (ten n) way xs.length with h0 | ⟨j, hj, he⟩
  · rw [h0]; omega
  · obtain ⟨g1, g2⟩ := allIn_get h hj
    obtain ⟨p, m, t, dd, HP, HM, hm, hd, p1, p2, m1, m2, t1, t2, hc⟩ := rnd_bounds (way := way) g1 g2 hn hw0 hw2
    have e0 : errD xs (ten n) way j = -dd := by
      unfold errD
      rw [HP.out, HM.out, hm]; omega
    have hpp := HP.out
    rw [e0] at he
    rw [hpp] at he ⊢
    have hN : 0 ≤ errS xs p way xs.length := by rw [← hpp]; exact (errS_bd h (Nat.le_refl _) hn hw0 hw2).1
    generalize errS xs p way xs.length = N at he hN ⊢
    omega
end Go.Proofs.YtdgnhplaakjlgaaGreatDoor
