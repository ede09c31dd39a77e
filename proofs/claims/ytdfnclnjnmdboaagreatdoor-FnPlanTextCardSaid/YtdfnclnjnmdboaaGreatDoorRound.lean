/- Contracts: rounding one entry, program and reference. -/
import Derived.Test.YtdfnclnjnmdboaaGreatDoorNum
namespace Go.Proofs.YtdfnclnjnmdboaaGreatDoor
set_option linter.unusedVariables false
open Go.RowKit

/-- a number rounded down to units of p -/
def rndF (n p way : Int) : Int :=
  if way = 0 ∨ 2 * (n % p) < p then n / p
  else if p < 2 * (n % p) then n / p + 1
  else if way = 1 ∧ n < 0 ∨ way = 2 ∧ (n / p) % 2 = 0 then n / p else n / p + 1
def rndB (n d way : Int) : Bool := decide (-1000000000 ≤ n ∧ n ≤ 1000000000 ∧ 0 ≤ d ∧ d ≤ 6 ∧ 0 ≤ way ∧ way ≤ 2)
def rnd (n d way : Int) : Int := if rndB n d way = true then rndF n (ten d.toNat) way else 0
def wayB (d way : Int) : Bool := decide (0 ≤ d ∧ d ≤ 6 ∧ 0 ≤ way ∧ way ≤ 2)
theorem rndB_eq (n d way : Int) : rndB n d way = (inB n (-1000000000) 1000000000 && wayB d way) := by
  unfold rndB inB wayB; rw [Bool.eq_iff_iff]; simp; omega

theorem ten6 {k : Nat} (h : k ≤ 6) : 1 ≤ ten k ∧ ten k ≤ 1000000 := ⟨ten_pos k, by have := ten_mono h; have e : ten 6 = 1000000 := (by decide); omega⟩
/-- the plain facts on a quotient and a remainder -/
theorem div_facts {n p : Int} (h1 : 1 ≤ p) (hn : -1000000000 ≤ n) (hm : n ≤ 1000000000) : 0 ≤ n % p ∧ n % p < p ∧ n - n % p = p * (n / p) ∧ -1000000000 ≤ n / p ∧ n / p ≤ 1000000000 := by
  have a := Int.emod_nonneg n (b := p) (by omega)
  have b := Int.emod_lt_of_pos n (b := p) (by omega)
  have c := Int.mul_ediv_add_emod n p
  refine ⟨a, b, by omega, ?_, ?_⟩
  · have : -1000000000 / p ≤ n / p := Int.ediv_le_ediv (by omega) hn
    have h2 : -1000000000 ≤ -1000000000 / p := by
      rw [Int.le_ediv_iff_mul_le (by omega)]
      have : 1000000000 * 1 ≤ 1000000000 * p := Int.mul_le_mul_of_nonneg_left h1 (by omega)
      omega
    omega
  · have : n / p ≤ 1000000000 / p := Int.ediv_le_ediv (by omega) hm
    have h2 : 1000000000 / p ≤ 1000000000 := Int.ediv_le_self _ (by omega)
    omega
theorem quo_exact {n p q r : Int} (h1 : 1 ≤ p) (h : n - r = p * q) : (n - r).tdiv p = q := by
  rw [h, Int.mul_tdiv_cancel_left _ (by omega)]

set_option maxRecDepth 20000 in
theorem c_within (n b : Int) (w : World) (hb : 0 ≤ b) (hb' : b ≤ 1000000000000) :
    Calls Tryz.prog 99 #[(.int .i64 (n)), (.int .i64 (b))] w fun e w' => e = .returned (.bool (inB n (-b) b)) ∧ w = w' := by
  go_enter Tryz.func99, Tryz.ntmps99
  go_wp2
  all_goals (go_ret; refine ⟨ret_bool ?_, rfl⟩; go_light; unfold inB; simp; try omega)
/-- all that a walk of a rounding wants, in plain variables: remainder x, quotient q -/
theorem rnd_setup {n p way : Int} (hp1 : 1 ≤ p) (hp6 : p ≤ 1000000) (hn : -1000000000 ≤ n) (hm : n ≤ 1000000000) :
    ∃ x q y : Int, Hid (n % p = x) ∧ Hid (n / p = q) ∧ Hid (q % 2 = y) ∧ (n - x).tdiv p = q ∧ 0 ≤ x ∧ x < p ∧ -1000000000 ≤ q ∧ q ≤ 1000000000 ∧ (2 * x = p → n ≠ 0) ∧ 0 ≤ y ∧ y < 2 ∧
      Hid (rndF n p way = if way = 0 ∨ 2 * x < p then q else if p < 2 * x then q + 1 else if way = 1 ∧ n < 0 ∨ way = 2 ∧ y = 0 then q else q + 1) := by
  obtain ⟨f1, f2, f3, f4, f5⟩ := div_facts (p := p) hp1 hn hm
  exact ⟨n % p, n / p, _, rfl, rfl, rfl, quo_exact hp1 f3, f1, f2, f4, f5, fun h e => by subst e; simp at h; omega, Int.emod_nonneg _ (by omega), Int.emod_lt_of_pos _ (by omega), rfl⟩
/-- the cases that a walk of a rounding parts on -/
theorem rnd_cases {n p x y way : Int} (h0 : 0 ≤ way) (h2 : way ≤ 2) (hx : 2 * x = p → n ≠ 0) (hy0 : 0 ≤ y) (hy2 : y < 2) :
    way = 0 ∨ ((way = 1 ∨ way = 2) ∧ 2 * x < p) ∨ ((way = 1 ∨ way = 2) ∧ ¬ 2 * x < p ∧ p < 2 * x) ∨ (way = 1 ∧ ¬ 2 * x < p ∧ ¬ p < 2 * x ∧ n < 0) ∨ (way = 1 ∧ ¬ 2 * x < p ∧ ¬ p < 2 * x ∧ 0 < n) ∨ (way = 2 ∧ ¬ 2 * x < p ∧ ¬ p < 2 * x ∧ y = 0) ∨ (way = 2 ∧ ¬ 2 * x < p ∧ ¬ p < 2 * x ∧ y = 1) := by
  omega

end Go.Proofs.YtdfnclnjnmdboaaGreatDoor
