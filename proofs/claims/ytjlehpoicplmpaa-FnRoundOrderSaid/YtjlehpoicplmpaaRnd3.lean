/- Plain facts on rounded numbers: the opposite number, a greater number, a multiple. No program in sight. -/
import Derived.Test.YtjlehpoicplmpaaRnd2
namespace Go.Proofs.Ytjlehpoicplmpaa
set_option linter.unusedVariables false

theorem neg_div {n p q x : Int} (hp : 1 ≤ p) (h1 : n % p = x) (h2 : n / p = q) : (x = 0 → (-n) % p = 0 ∧ (-n) / p = -q) ∧ (x ≠ 0 → (-n) % p = p - x ∧ (-n) / p = -q - 1) := by
  have e := Int.mul_ediv_add_emod n p
  have a := Int.emod_nonneg n (b := p) (by omega)
  have b := Int.emod_lt_of_pos n (b := p) (by omega)
  rw [h1, h2] at e
  rw [h1] at a b
  constructor
  · intro h
    have e2 : -n = 0 + p * (-q) := by rw [Int.mul_neg]; omega
    rw [e2]
    constructor
    · rw [Int.add_mul_emod_self_left]; rfl
    · rw [Int.add_mul_ediv_left _ _ (by omega)]; simp
  · intro h
    have e2 : -n = (p - x) + p * (-q - 1) := by rw [Int.mul_sub, Int.mul_neg]; omega
    rw [e2]
    constructor
    · rw [Int.add_mul_emod_self_left]; exact Int.emod_eq_of_lt (by omega) (by omega)
    · rw [Int.add_mul_ediv_left _ _ (by omega), Int.ediv_eq_zero_of_lt (by omega) (by omega)]; omega

theorem rnd_neg {n p way : Int} (hp1 : 1 ≤ p) (hp6 : p ≤ 1000000) (hn : -1000000000 ≤ n) (hm : n ≤ 1000000000) (hw0 : 0 ≤ way) (hw2 : way ≤ 2) :
    (n % p = 0 → rndF (-n) p way = -rndF n p way) ∧ (n % p ≠ 0 → rndF (-n) p way = if way = 0 then -rndF n p way - 1 else -rndF n p way) := by
  obtain ⟨x, q, y, HX, HQ, HY, hq, g1, g2, g3, g4, g5, g6, g7, E⟩ := rnd_setup (way := way) hp1 hp6 hn hm
  obtain ⟨d0, d1⟩ := neg_div hp1 HX.out HQ.out
  have hy := HY.out
  rw [HX.out]
  have hc := rnd_cases hw0 hw2 g5 g6 g7
  constructor
  · intro hx
    obtain ⟨e1, e2⟩ := d0 hx
    have l1 : rndF n p way = q := by rw [E.out, if_pos (by omega)]
    have l2 : rndF (-n) p way = -q := by unfold rndF; rw [e1, e2, if_pos (by omega)]
    rw [l1, l2]
  · intro hx
    obtain ⟨e1, e2⟩ := d1 hx
    rcases hc with h | ⟨h, h2⟩ | ⟨h, h2, h3⟩ | ⟨h, h2, h3, h4⟩ | ⟨h, h2, h3, h4⟩ | ⟨h, h2, h3, h4⟩ | ⟨h, h2, h3, h4⟩
    · have l1 : rndF n p way = q := by rw [E.out, if_pos (by omega)]
      have l2 : rndF (-n) p way = -q - 1 := by unfold rndF; rw [e1, e2, if_pos (by omega)]
      rw [l1, l2, if_pos h]
    · have l1 : rndF n p way = q := by rw [E.out, if_pos (by omega)]
      have l2 : rndF (-n) p way = -q - 1 + 1 := by unfold rndF; rw [e1, e2, if_neg (by omega), if_pos (by omega)]
      rw [l1, l2, if_neg (by omega)]; omega
    · have l1 : rndF n p way = q + 1 := by rw [E.out, if_neg (by omega), if_pos (by omega)]
      have l2 : rndF (-n) p way = -q - 1 := by unfold rndF; rw [e1, e2, if_pos (by omega)]
      rw [l1, l2, if_neg (by omega)]; omega
    · have l1 : rndF n p way = q := by rw [E.out, if_neg (by omega), if_neg (by omega), if_pos (by omega)]
      have l2 : rndF (-n) p way = -q - 1 + 1 := by unfold rndF; rw [e1, e2, if_neg (by omega), if_neg (by omega), if_neg (by omega)]
      rw [l1, l2, if_neg (by omega)]; omega
    · have l1 : rndF n p way = q + 1 := by rw [E.out, if_neg (by omega), if_neg (by omega), if_neg (by omega)]
      have l2 : rndF (-n) p way = -q - 1 := by unfold rndF; rw [e1, e2, if_neg (by omega), if_neg (by omega), if_pos (by omega)]
      rw [l1, l2, if_neg (by omega)]; omega
    · have l1 : rndF n p way = q := by rw [E.out, if_neg (by omega), if_neg (by omega), if_pos (by omega)]
      have l2 : rndF (-n) p way = -q - 1 + 1 := by unfold rndF; rw [e1, e2, if_neg (by omega), if_neg (by omega), if_neg (by omega)]
      rw [l1, l2, if_neg (by omega)]; omega
    · have l1 : rndF n p way = q + 1 := by rw [E.out, if_neg (by omega), if_neg (by omega), if_neg (by omega)]
      have l2 : rndF (-n) p way = -q - 1 := by unfold rndF; rw [e1, e2, if_neg (by omega), if_neg (by omega), if_pos (by omega)]
      rw [l1, l2, if_neg (by omega)]; omega

theorem rnd_mono {n n' p way : Int} (hp1 : 1 ≤ p) (hp6 : p ≤ 1000000) (hn : -1000000000 ≤ n) (hm : n' ≤ 1000000000) (hw0 : 0 ≤ way) (hw2 : way ≤ 2) (h : n ≤ n') : rndF n p way ≤ rndF n' p way := by
  obtain ⟨f1, f2, f3, f4, f5⟩ := div_facts (p := p) (n := n) hp1 hn (by omega)
  obtain ⟨b1, b2, b3, b4, b5⟩ := div_facts (p := p) (n := n') hp1 (by omega) hm
  have hq : n / p ≤ n' / p := Int.ediv_le_ediv (by omega) h
  have l1 : rndF n p way ≤ n / p + 1 := by unfold rndF; (repeat' split) <;> omega
  have l2 : n' / p ≤ rndF n' p way := by unfold rndF; (repeat' split) <;> omega
  by_cases hlt : n / p < n' / p
  · omega
  · have he : n / p = n' / p := by omega
    by_cases hne : n = n'
    · subst hne; exact Int.le_refl _
    · have hx : n % p < n' % p := by rw [he] at f3; omega
      unfold rndF
      rw [he]
      generalize n % p = x at *
      generalize n' % p = x' at *
      generalize n' / p = q at *
      by_cases c1 : way = 0 ∨ 2 * x < p
      · rw [if_pos c1]; (repeat' split) <;> omega
      · rw [if_neg c1, if_neg (by omega : ¬ (way = 0 ∨ 2 * x' < p)), if_pos (by omega : p < 2 * x')]
        (repeat' split) <;> omega
theorem rnd_mult {n p way : Int} (hp1 : 1 ≤ p) : rndF (n - n.tmod p) p way * p = n - n.tmod p := by
  have h : (n - n.tmod p) % p = 0 := by
    rcases tmod_cases n p hp1 with ⟨_, h2, _⟩ | ⟨_, h2, _⟩
    · rw [h2, Int.sub_emod, Int.emod_emod_of_dvd _ (Int.dvd_refl _), Int.sub_self, Int.zero_emod]
    · have : n - n.tmod p = n - n % p + p := by omega
      rw [this, Int.add_emod_right, Int.sub_emod, Int.emod_emod_of_dvd _ (Int.dvd_refl _), Int.sub_self, Int.zero_emod]
  have e : rndF (n - n.tmod p) p way = (n - n.tmod p) / p := by unfold rndF; rw [h, if_pos (by omega)]
  rw [e]
  have := Int.mul_ediv_add_emod (n - n.tmod p) p
  rw [h, Int.mul_comm] at this
  omega
end Go.Proofs.Ytjlehpoicplmpaa
