/- Contracts of small functions on numbers: remainders, powers of ten, bounds, rounding. -/
import Derived.Test.YtdgnhplaakjlgaaGreatDoorLay
namespace Go.Proofs.YtdgnhplaakjlgaaGreatDoor
set_option linter.unusedVariables false
open Go.RowKit

def ten (k : Nat) : Int := 10 ^ k
theorem ten_succ (k : Nat) : ten (k + 1) = ten k * 10 := by simp [ten, Int.pow_succ]
theorem ten_pos (k : Nat) : 1 ≤ ten k := by
  induction k with
  | zero => simp [ten]
  | succ k ih => rw [ten_succ]; omega
theorem ten_mono {a b : Nat} (h : a ≤ b) : ten a ≤ ten b := by
  induction b with
  | zero => have : a = 0 := by omega
            subst this; exact Int.le_refl _
  | succ b ih =>
    by_cases e : a = b + 1
    · subst e; exact Int.le_refl _
    · have h1 := ih (by omega); have h2 := ten_pos b; rw [ten_succ]; omega
theorem ten_bd {k : Nat} (h : k ≤ 17) : 1 ≤ ten k ∧ ten k ≤ 100000000000000000 := ⟨ten_pos k, by have := ten_mono h; have e : ten 17 = 100000000000000000 := (by decide); omega⟩

set_option maxRecDepth 20000 in
theorem c_powerOfTen (k : Nat) (w : World) (hk : k ≤ 17) :
    Calls Tryz.prog 52 #[(.int .i64 ((k : Int)))] w fun e w' => e = .returned (.int .i64 (ten k)) ∧ w = w' := by
  go_enter Tryz.func52, Tryz.ntmps52
  go_wp2
  go_loop [3, 5] (fun p i => ∃ j : Nat, j ≤ k ∧ i = .int .i64 j ∧ p = .int .i64 (ten j)) (fun _ i => k - (intOf i).toNat)
  case atStart => exact ⟨0, by omega, rfl, rfl⟩
  case round =>
    obtain ⟨j, hj, rfl, rfl⟩ := hrel
    by_cases hlt : j < k
    · obtain ⟨h1, h2⟩ := ten_bd (k := j) (by omega)
      have e : Hid (ten (j + 1) = ten j * 10) := ten_succ j
      go_wp2
      go_round
      case rel => exact ⟨j + 1, by omega, by go_num, by rw [e.out]⟩
      case measure => simp [intOf]; omega
    · have e : Hid (ten k = ten j) := by have : j = k := by omega
                                         subst this; rfl
      go_wp2
      go_ret
      exact ⟨ret_int e.out.symm, rfl⟩
set_option maxRecDepth 20000 in
theorem c_l1Ten (k : Nat) (w : World) (hk : k ≤ 17) :
    Calls Tryz.prog 69 #[(.int .i64 ((k : Int)))] w fun e w' => e = .returned (.int .i64 (ten k)) ∧ w = w' := by
  go_enter Tryz.func69, Tryz.ntmps69
  go_wp2
  go_loop [3, 4] (fun p i => ∃ j : Nat, j ≤ k ∧ i = .int .i64 j ∧ p = .int .i64 (ten j)) (fun _ i => k - (intOf i).toNat)
  case atStart => exact ⟨0, by omega, rfl, rfl⟩
  case round =>
    obtain ⟨j, hj, rfl, rfl⟩ := hrel
    by_cases hlt : j < k
    · obtain ⟨h1, h2⟩ := ten_bd (k := j) (by omega)
      have e : Hid (ten (j + 1) = ten j * 10) := ten_succ j
      go_wp2
      go_round
      case rel => exact ⟨j + 1, by omega, by go_num, by rw [e.out]⟩
      case measure => simp [intOf]; omega
    · have e : Hid (ten k = ten j) := by have : j = k := by omega
                                         subst this; rfl
      go_wp2
      go_ret
      exact ⟨ret_int e.out.symm, rfl⟩
theorem tmod_cases (n m : Int) (hm : 1 ≤ m) : (0 ≤ n.tmod m ∧ n.tmod m = n % m ∧ n.tmod m < m) ∨ (n.tmod m < 0 ∧ n.tmod m + m = n % m ∧ -m < n.tmod m) := by
  have h1 := Int.emod_nonneg n (b := m) (by omega)
  have h2 := Int.emod_lt_of_pos n (b := m) (by omega)
  by_cases hn : 0 ≤ n
  · left
    rw [Int.tmod_eq_emod_of_nonneg hn]
    exact ⟨h1, rfl, h2⟩
  · rw [Int.tmod_eq_emod]
    have hna : (m.natAbs : Int) = m := by omega
    by_cases hd : m ∣ n
    · left
      simp only [hd, or_true, if_true]
      omega
    · right
      have hz : n % m ≠ 0 := fun e => hd (Int.dvd_of_emod_eq_zero e)
      simp only [hn, hd, or_self, if_false]
      omega
set_option maxRecDepth 20000 in
theorem c_modulo (n m : Int) (w : World) (hm : 1 ≤ m) (hm' : m ≤ 100000000000000000) :
    Calls Tryz.prog 68 #[(.int .i64 (n)), (.int .i64 (m))] w fun e w' => e = .returned (.int .i64 (n % m)) ∧ w = w' := by
  have hr0 : (m = 0) = False := by simp; omega
  rcases tmod_cases n m hm with ⟨h1, h2, h3⟩ | ⟨h1, h2, h3⟩
  · have e : Hid (n.tmod m = n % m) := h2
    clear h2
    generalize hq : n.tmod m = q at h1 h3
    have hq' : Hid (n.tmod m = q) := hq
    go_enter Tryz.func68, Tryz.ntmps68
    go_wp2
    go_ret
    exact ⟨ret_int (by rw [← e.out, hq'.out]), rfl⟩
  · have e : Hid (n.tmod m + m = n % m) := h2
    clear h2
    generalize hq : n.tmod m = q at h1 h3
    have hq' : Hid (n.tmod m = q) := hq
    go_enter Tryz.func68, Tryz.ntmps68
    go_wp2
    go_ret
    exact ⟨ret_int (by rw [← e.out, hq'.out]), rfl⟩
set_option maxRecDepth 20000 in
theorem c_l4Rest (n m : Int) (w : World) (hm : 1 ≤ m) (hm' : m ≤ 100000000000000000) :
    Calls Tryz.prog 70 #[(.int .i64 (n)), (.int .i64 (m))] w fun e w' => e = .returned (.int .i64 (n % m)) ∧ w = w' := by
  have hr0 : (m = 0) = False := by simp; omega
  have h4 : (n.tmod m + m) % m = n % m ∧ 0 ≤ n.tmod m + m ∧ n.tmod m + m ≤ 200000000000000000 := by
    have hb := Int.emod_nonneg n (b := m) (by omega)
    have hc := Int.emod_lt_of_pos n (b := m) (by omega)
    rcases tmod_cases n m hm with ⟨h1, h2, h3⟩ | ⟨h1, h2, h3⟩
    · refine ⟨?_, by omega, by omega⟩
      rw [h2, Int.add_emod_right, Int.emod_emod_of_dvd _ (Int.dvd_refl _)]
    · refine ⟨?_, by omega, by omega⟩
      rw [h2, Int.emod_emod_of_dvd _ (Int.dvd_refl _)]
  obtain ⟨h4, h5, h6⟩ := h4
  have e : Hid ((n.tmod m + m) % m = n % m) := h4
  clear h4
  generalize hq : n.tmod m = q at h5 h6
  have hq' : Hid (n.tmod m = q) := hq
  go_enter Tryz.func70, Tryz.ntmps70
  go_wp2
  go_ret
  exact ⟨ret_int (by rw [← e.out, hq'.out]), rfl⟩
end Go.Proofs.YtdgnhplaakjlgaaGreatDoor
