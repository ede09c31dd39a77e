/- Contracts: rounding one entry, program and reference. -/
import Derived.Test.YtdgnhplaakjlgaaGreatDoorNum
namespace Go.Proofs.YtdgnhplaakjlgaaGreatDoor
set_option linter.unusedVariables false
open Go.RowKit

/-- a number rounded down to units of p -/
def rndF (n p way : Int) : Int :=
  if way = 0 ∨ 2 * (n % p) < p then n / p
  else if p < 2 * (n % p) then n / p + 1
  else if way = 1 ∧ n < 0 ∨ way = 2 ∧ (n / p) % 2 = 0 then n / p else n / p + 1
def rndB (n d way : Int) : Bool := decide (-1000000000 ≤ n ∧ n ≤ 1000000000 ∧ 0 ≤ d ∧ d ≤ 6 ∧ 0 ≤ way ∧ way ≤ 2)
def rnd (n d way : Int) : Int := if rndB n d way = true then rndF n (ten d.toNat) way else 0
def wayB (d way : Int) : Bool := decide (0 ≤ d ∧ d ≤ 6 ∧ 0 ≤ way ∧ way ≤ 2)
theorem rndB_eq (n d way : Int) : rndB n d way = (inB n (-1000000000) 1000000000 && wayB d way) := by
  unfold rndB inB wayB; rw [Bool.eq_iff_iff]; simp; omega

theorem ten6 {k : Nat} (h : k ≤ 6) : 1 ≤ ten k ∧ ten k ≤ 1000000 := ⟨ten_pos k, by have := ten_mono h; have e : ten 6 = 1000000 := (by decide); omega⟩
/-- the plain facts on a quotient and a remainder -/
theorem div_facts {n p : Int} (h1 : 1 ≤ p) (hn : -1000000000 ≤ n) (hm : n ≤ 1000000000) : 0 ≤ n % p ∧ n % p < p ∧ n - n % p = p * (n / p) ∧ -1000000000 ≤ n / p ∧ n / p ≤ 1000000000 := by
  have a := Int.emod_nonneg n (b := p) (by omega)
  have b := Int.emod_lt_of_pos n (b := p) (by omega)
  have c := Int.mul_ediv_add_emod n p
  refine ⟨a, b, by omega, ?_, ?_⟩
  · have : -1000000000 / p ≤ n / p := Int.ediv_le_ediv (by omega) hn
    have h2 : -1000000000 ≤ -1000000000 / p := by
      rw [Int.le_ediv_iff_mul_le (by omega)]
      have : 1000000000 * 1 ≤ 1000000000 * p := Int.mul_le_mul_of_nonneg_left h1 (by omega)
      omega
    omega
  · have : n / p ≤ 1000000000 / p := Int.ediv_le_ediv (by omega) hm
    have h2 : 1000000000 / p ≤ 1000000000 := Int.ediv_le_self _ (by omega)
    omega
theorem quo_exact {n p q r : Int} (h1 : 1 ≤ p) (h : n - r = p * q) : (n - r).tdiv p = q := by
  rw [h, Int.mul_tdiv_cancel_left _ (by omega)]

set_option maxRecDepth 20000 in
theorem c_within (n b : Int) (w : World) (hb : 0 ≤ b) (hb' : b ≤ 1000000000000) :
    Calls Tryz.prog 67 #[(.int .i64 (n)), (.int .i64 (b))] w fun e w' => e = .returned (.bool (inB n (-b) b)) ∧ w = w' := by
  go_enter Tryz.func67, Tryz.ntmps67
  go_wp2
  all_goals (go_ret; refine ⟨ret_bool ?_, rfl⟩; go_light; unfold inB; simp; try omega)
set_option maxRecDepth 20000 in
theorem c_roundingValid (d way : Int) (w : World) :
    Calls Tryz.prog 43 #[(.int .i64 (d)), (.int .i64 (way))] w fun e w' => e = .returned (.bool (wayB d way)) ∧ w = w' := by
  go_enter Tryz.func43, Tryz.ntmps43
  go_wp2
  all_goals (go_ret; refine ⟨ret_bool ?_, rfl⟩; go_light; unfold wayB; rw [Bool.eq_iff_iff]; simp; try omega)
set_option maxRecDepth 20000 in
theorem c_l6Way (d way : Int) (w : World) :
    Calls Tryz.prog 46 #[(.int .i64 (d)), (.int .i64 (way))] w fun e w' => e = .returned (.bool (wayB d way)) ∧ w = w' := by
  have E : Hid (wayB d way = (inB d 0 6 && inB way 0 2)) := by
    show _ = _
    unfold wayB inB; rw [Bool.eq_iff_iff]; simp; omega
  cases h : inB d 0 6
  all_goals
    rw [h] at E
    go_enter Tryz.func46, Tryz.ntmps46
    go_wp2_with (go_at_call 29; refine (c_l1In _ _ _ _).mono ?_; rintro e w' ⟨rfl, rfl⟩)
    go_ret
    exact ⟨ret_bool (by rw [E.out]; rfl), rfl⟩
/-- all that a walk of a rounding wants, in plain variables: remainder x, quotient q -/
theorem rnd_setup {n p way : Int} (hp1 : 1 ≤ p) (hp6 : p ≤ 1000000) (hn : -1000000000 ≤ n) (hm : n ≤ 1000000000) :
    ∃ x q y : Int, Hid (n % p = x) ∧ Hid (n / p = q) ∧ Hid (q % 2 = y) ∧ (n - x).tdiv p = q ∧ 0 ≤ x ∧ x < p ∧ -1000000000 ≤ q ∧ q ≤ 1000000000 ∧ (2 * x = p → n ≠ 0) ∧ 0 ≤ y ∧ y < 2 ∧
      Hid (rndF n p way = if way = 0 ∨ 2 * x < p then q else if p < 2 * x then q + 1 else if way = 1 ∧ n < 0 ∨ way = 2 ∧ y = 0 then q else q + 1) := by
  obtain ⟨f1, f2, f3, f4, f5⟩ := div_facts (p := p) hp1 hn hm
  exact ⟨n % p, n / p, _, rfl, rfl, rfl, quo_exact hp1 f3, f1, f2, f4, f5, fun h e => by subst e; simp at h; omega, Int.emod_nonneg _ (by omega), Int.emod_lt_of_pos _ (by omega), rfl⟩
/-- the cases that a walk of a rounding parts on -/
theorem rnd_cases {n p x y way : Int} (h0 : 0 ≤ way) (h2 : way ≤ 2) (hx : 2 * x = p → n ≠ 0) (hy0 : 0 ≤ y) (hy2 : y < 2) :
    way = 0 ∨ ((way = 1 ∨ way = 2) ∧ 2 * x < p) ∨ ((way = 1 ∨ way = 2) ∧ ¬ 2 * x < p ∧ p < 2 * x) ∨ (way = 1 ∧ ¬ 2 * x < p ∧ ¬ p < 2 * x ∧ n < 0) ∨ (way = 1 ∧ ¬ 2 * x < p ∧ ¬ p < 2 * x ∧ 0 < n) ∨ (way = 2 ∧ ¬ 2 * x < p ∧ ¬ p < 2 * x ∧ y = 0) ∨ (way = 2 ∧ ¬ 2 * x < p ∧ ¬ p < 2 * x ∧ y = 1) := by
  omega

set_option maxRecDepth 20000 in
set_option maxHeartbeats 400000 in
theorem c_l6Round (n way : Int) (k : Nat) (w : World) (hn : -1000000000 ≤ n) (hm : n ≤ 1000000000) (hk : k ≤ 6) (hw0 : 0 ≤ way) (hw2 : way ≤ 2) :
    Calls Tryz.prog 47 #[(.int .i64 (n)), (.int .i64 ((k : Int))), (.int .i64 (way))] w fun e w' => e = .returned (.int .i64 (rndF n (ten k) way)) ∧ w = w' := by
  obtain ⟨hp1, hp6⟩ := ten6 hk
  have hk17 : k ≤ 17 := by omega
  generalize hp : ten k = p at hp1 hp6
  have HP : Hid (ten k = p) := hp
  clear hp
  obtain ⟨x, q, y, HX, HQ, HY, hq, f1, f2, f3, f4, f5, f6, f7, E⟩ := rnd_setup (way := way) hp1 hp6 hn hm
  have hr0 : (p = 0) = False := by simp; omega
  have hc := rnd_cases hw0 hw2 f5 f6 f7
  clear f5
  rcases hc with h | ⟨h | h, h2⟩ | ⟨h | h, h2, h3⟩ | ⟨h, h2, h3, h4⟩ | ⟨h, h2, h3, h4⟩ | ⟨h, h2, h3, rfl⟩ | ⟨h, h2, h3, rfl⟩
  all_goals
    subst h
    go_enter Tryz.func47, Tryz.ntmps47
    go_wp2_with (first | (go_at_call 69; refine (c_l1Ten k _ hk17).mono ?_; rw [HP.out]; rintro e w' ⟨rfl, rfl⟩) | (go_at_call 70; refine (c_l4Rest _ _ _ (by omega) (by omega)).mono ?_; (first | rw [HX.out] | rw [HY.out]); rintro e w' ⟨rfl, rfl⟩))
    go_ret
    refine ⟨ret_int ?_, rfl⟩
    go_light
    rw [E.out]
    (try simp)
    (try ((repeat' split) <;> omega))
set_option maxRecDepth 20000 in
set_option maxHeartbeats 400000 in
theorem c_impl_RoundEntry (n d way : Int) (w : World) :
    Calls Tryz.prog 44 #[(.int .i64 (n)), (.int .i64 (d)), (.int .i64 (way))] w fun e w' => e = .returned (.tuple #[(.int .i64 (rnd n d way)), .bool (rndB n d way)]) ∧ w = w' := by
  by_cases h : rndB n d way = true
  · have h' : -1000000000 ≤ n ∧ n ≤ 1000000000 ∧ 0 ≤ d ∧ d ≤ 6 ∧ 0 ≤ way ∧ way ≤ 2 := by simpa [rndB] using h
    obtain ⟨hn, hm, h3, h4, hw0, hw2⟩ := h'
    obtain ⟨k, rfl⟩ : ∃ k : Nat, d = k := ⟨d.toNat, by omega⟩
    have i1 := inB_t hn hm
    have i2 : wayB k way = true := decide_eq_true ⟨h3, h4, hw0, hw2⟩
    have hk : k ≤ 6 := by omega
    have E0 : Hid (rnd n k way = rndF n (ten k) way ∧ rndB n k way = true) := ⟨if_pos h, h⟩
    clear h
    obtain ⟨hp1, hp6⟩ := ten6 hk
    have hk17 : k ≤ 17 := by omega
    generalize hp : ten k = p at hp1 hp6 E0
    have HP : Hid (ten k = p) := hp
    clear hp
    obtain ⟨x, q, y, HX, HQ, HY, hq, f1, f2, f3, f4, f5, f6, f7, E⟩ := rnd_setup (way := way) hp1 hp6 hn hm
    have hr0 : (p = 0) = False := by simp; omega
    have hc := rnd_cases hw0 hw2 f5 f6 f7
    clear f5
    rcases hc with h | ⟨h | h, h2⟩ | ⟨h | h, h2, h3⟩ | ⟨h, h2, h3, h4⟩ | ⟨h, h2, h3, h4⟩ | ⟨h, h2, h3, rfl⟩ | ⟨h, h2, h3, rfl⟩
    all_goals
      subst h
      go_enter Tryz.func44, Tryz.ntmps44
      go_wp2_with (first | (go_at_call 67; refine (c_within _ _ _ (by omega) (by omega)).mono ?_; rintro e w' ⟨rfl, rfl⟩) | (go_at_call 43; refine (c_roundingValid _ _ _).mono ?_; rintro e w' ⟨rfl, rfl⟩) | (go_at_call 52; refine (c_powerOfTen k _ hk17).mono ?_; rw [HP.out]; rintro e w' ⟨rfl, rfl⟩) | (go_at_call 68; refine (c_modulo _ _ _ (by omega) (by omega)).mono ?_; (first | rw [HX.out] | rw [HY.out]); rintro e w' ⟨rfl, rfl⟩))
      go_ret2
      refine ⟨?_, rfl⟩
      rw [E0.out.1, E0.out.2, E.out]
      go_light
      have E2 : ∀ a b : Int, a = b → Ending.returned (.tuple #[.int .i64 a, .bool true]) = .returned (.tuple #[.int .i64 b, .bool true]) := fun a b h => by rw [h]
      refine E2 _ _ ?_
      (try simp)
      (try ((repeat' split) <;> omega))
  · have E : Hid (rnd n d way = 0 ∧ rndB n d way = false) := ⟨if_neg h, by simpa using h⟩
    rw [rndB_eq] at h
    have hd : inB n (-1000000000) 1000000000 = false ∨ (inB n (-1000000000) 1000000000 = true ∧ wayB d way = false) := by
      cases h1 : inB n (-1000000000) 1000000000
      · exact .inl rfl
      · exact .inr ⟨rfl, by simpa [h1] using h⟩
    clear h
    rcases hd with h | ⟨h, h2⟩
    all_goals
      go_enter Tryz.func44, Tryz.ntmps44
      go_wp2_with (first | (go_at_call 67; refine (c_within _ _ _ (by omega) (by omega)).mono ?_; rintro e w' ⟨rfl, rfl⟩) | (go_at_call 43; refine (c_roundingValid _ _ _).mono ?_; rintro e w' ⟨rfl, rfl⟩))
      go_ret2
      exact ⟨by rw [E.out.1, E.out.2]; rfl, rfl⟩
end Go.Proofs.YtdgnhplaakjlgaaGreatDoor
