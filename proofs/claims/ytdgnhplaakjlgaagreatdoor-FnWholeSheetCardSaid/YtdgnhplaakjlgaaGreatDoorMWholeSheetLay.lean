/- Lemmas and contracts for WholeSheet (Lay Num Round): plain words on memory, contracts of the functions that the law reaches. No condition but what each states. -/
import Derived.Test.YtdgnhplaakjlgaaGreatDoorMWholeSheetIn1
import Derived.WalkKit
import Derived.ProofKit
import Derived.Deep.RegionHeld3
import Derived.Deep.Light
import Derived.Deep.QuietTactic
import Derived.BigQuiet
import Derived.WalkSmall
namespace Go.Proofs.YtdgnhplaakjlgaaGreatDoor
set_option linter.unusedVariables false
open Go.RowKit



theorem keep3 {w1 wa wb : World} {b : Nat} {v0 v1 v2 : Value} (hb : b < w1.heap.size) (h : Below w1.heap.size w1 wa ∧ wa.cell? ⟨b, 0, none⟩ = some v0 ∧ wa.cell? ⟨b, 1, none⟩ = some v1 ∧ wa.cell? ⟨b, 2, none⟩ = some v2) (k : Below wa.heap.size wa wb) :
    Below w1.heap.size w1 wb ∧ wb.cell? ⟨b, 0, none⟩ = some v0 ∧ wb.cell? ⟨b, 1, none⟩ = some v1 ∧ wb.cell? ⟨b, 2, none⟩ = some v2 := by
  obtain ⟨h0, h1, h2, h3⟩ := h
  have hs := h0.size
  obtain ⟨hc, _⟩ := bcell k
  exact ⟨bthen h0 k, by rw [hc _ _ (by omega)]; exact h1, by rw [hc _ _ (by omega)]; exact h2, by rw [hc _ _ (by omega)]; exact h3⟩
theorem keep3_0 {w w1 : World} {v0 v1 v2 : Value} {t : TypeId} (hb : Below (w.alloc (.cells #[v0, v1, v2] t)).heap.size (w.alloc (.cells #[v0, v1, v2] t)) w1) :
    Below w1.heap.size w1 w1.drew ∧ w1.drew.cell? ⟨w.heap.size, 0, none⟩ = some v0 ∧ w1.drew.cell? ⟨w.heap.size, 1, none⟩ = some v1 ∧ w1.drew.cell? ⟨w.heap.size, 2, none⟩ = some v2 := by
  obtain ⟨hc, _⟩ := bcell hb
  refine ⟨(Below.refl _ _).drew, ?_, ?_, ?_⟩ <;> (show w1.cell? _ = _; rw [hc _ _ (by simp)]; simp [go_sem])

theorem keep3_1 {w w1 w2 : World} {v0 v1 v2 : Value} {t : TypeId} (hb : Below (w.alloc (.cells #[v0, v1, v2] t)).heap.size (w.alloc (.cells #[v0, v1, v2] t)) w1) (hb2 : Below w1.heap.size w1 w2) :
    Below w2.heap.size w2 w2.drew ∧ w2.drew.cell? ⟨w.heap.size, 0, none⟩ = some v0 ∧ w2.drew.cell? ⟨w.heap.size, 1, none⟩ = some v1 ∧ w2.drew.cell? ⟨w.heap.size, 2, none⟩ = some v2 :=
  keep3_0 (hb.trans (hb2.mono hb.size))

def layB (r a c : Int) : Bool := decide (1 ≤ r ∧ r ≤ 20 ∧ 1 ≤ a ∧ a ≤ 6 ∧ 1 ≤ c ∧ c ≤ 12)

set_option maxRecDepth 20000 in
theorem c_impl_LayoutValid (r a c : Int) (w : World) :
    Calls Tryz.prog 25 #[(.agg #[.int .i64 r, .int .i64 a, .int .i64 c])] w fun e w' => e = .returned (.bool (layB r a c)) ∧ Below w.heap.size w w' := by
  go_enter Tryz.func25, Tryz.ntmps25
  go_wp2
  all_goals (go_ret; refine ⟨ret_bool ?_, (Below.refl _ _).alloc (Nat.le_refl _) _⟩; go_light; unfold layB; rw [Bool.eq_iff_iff]; simp; try omega)

set_option maxRecDepth 20000 in
theorem c_spec_LayoutValid (r a c : Int) (w : World) :
    Calls Tryz.prog 28 #[(.agg #[.int .i64 r, .int .i64 a, .int .i64 c])] w fun e w' => e = .returned (.bool (layB r a c)) ∧ Below w.heap.size w w' := by
  go_enter Tryz.func28, Tryz.ntmps28
  go_wp2_with (go_at_call 29; refine (c_l1In _ _ _ _).mono ?_; rintro e w' ⟨rfl, rfl⟩)
  all_goals (go_ret; refine ⟨ret_bool ?_, (Below.refl _ _).alloc (Nat.le_refl _) _⟩; go_light; unfold layB; rw [Bool.eq_iff_iff]; simp_all [inB]; try omega)

set_option maxRecDepth 20000 in
theorem c_places (r a c : Int) (w : World) (hv : layB r a c = true) :
    Calls Tryz.prog 38 #[(.agg #[.int .i64 r, .int .i64 a, .int .i64 c])] w fun e w' => e = .returned (.int .i64 ((r * a))) ∧ Below w.heap.size w w' := by
  have h : 1 ≤ r ∧ r ≤ 20 ∧ 1 ≤ a ∧ a ≤ 6 := by unfold layB at hv; simp at hv; omega
  obtain ⟨h1, h2, h3, h4⟩ := h
  have h5 : 0 ≤ r * a := Int.mul_nonneg (by omega) (by omega)
  have h6 : r * a ≤ 120 := Int.mul_le_mul h2 h4 (by omega) (by omega)
  go_enter Tryz.func38, Tryz.ntmps38
  go_wp2
  go_ret
  exact ⟨rfl, (Below.refl _ _).alloc (Nat.le_refl _) _⟩

set_option maxRecDepth 20000 in
theorem c_countValid (n : Int) (w : World) :
    Calls Tryz.prog 37 #[(.int .i64 (n))] w fun e w' => e = .returned (.bool (inB n 0 60)) ∧ w = w' := by
  go_enter Tryz.func37, Tryz.ntmps37
  go_wp2
  all_goals (go_ret; refine ⟨ret_bool ?_, rfl⟩; go_light; unfold inB; simp; try omega)

def pnF (r a c n : Int) : Int := if layB r a c = true ∧ 0 ≤ n ∧ n ≤ 60 then (n + r * a - 1) / (r * a) else -1
theorem lay_mul {r a c : Int} (hv : layB r a c = true) : 1 ≤ r ∧ r ≤ 20 ∧ 1 ≤ a ∧ a ≤ 6 ∧ 1 ≤ c ∧ c ≤ 12 ∧ 1 ≤ r * a ∧ r * a ≤ 120 := by
  have h : 1 ≤ r ∧ r ≤ 20 ∧ 1 ≤ a ∧ a ≤ 6 ∧ 1 ≤ c ∧ c ≤ 12 := by unfold layB at hv; simpa using hv
  obtain ⟨h1, h2, h3, h4, h5, h6⟩ := h
  have h7 : 1 * 1 ≤ r * a := Int.mul_le_mul h1 h3 (by omega) (by omega)
  have h8 : r * a ≤ 20 * 6 := Int.mul_le_mul h2 h4 (by omega) (by omega)
  omega

set_option maxRecDepth 20000 in
theorem c_spec_PagesNeeded (r a c n : Int) (w : World) :
    Calls Tryz.prog 54 #[(.agg #[.int .i64 r, .int .i64 a, .int .i64 c]), (.int .i64 (n))] w fun e w' => e = .returned (.int .i64 ((pnF r a c n))) ∧ Below w.heap.size w w' := by
  by_cases h : layB r a c = true ∧ 0 ≤ n ∧ n ≤ 60
  · have e : pnF r a c n = (n + r * a - 1) / (r * a) := if_pos h
    obtain ⟨hv, hn, hm⟩ := h
    have hi := inB_t hn hm
    obtain ⟨h1, h2, h3, h4, h5, h6, h7, h8⟩ := lay_mul hv
    go_enter Tryz.func54, Tryz.ntmps54
    go_wp2_with (first | (go_at_call 29; refine (c_l1In _ _ _ _).mono ?_; rintro e w' ⟨rfl, rfl⟩) | (go_at_call 28; refine (c_spec_LayoutValid _ _ _ _).mono ?_; rintro e w1 ⟨rfl, hb⟩; obtain ⟨hc, hf⟩ := bcell hb))
    go_ret
    exact ⟨ret_int e.symm, balloc hb⟩
  · have e : pnF r a c n = -1 := if_neg h
    by_cases hv : layB r a c = true
    · have hn : inB n 0 60 = false := inB_f (fun q => h ⟨hv, q⟩)
      clear h
      go_enter Tryz.func54, Tryz.ntmps54
      go_wp2_with (first | (go_at_call 29; refine (c_l1In _ _ _ _).mono ?_; rintro e w' ⟨rfl, rfl⟩) | (go_at_call 28; refine (c_spec_LayoutValid _ _ _ _).mono ?_; rintro e w1 ⟨rfl, hb⟩; obtain ⟨hc, hf⟩ := bcell hb))
      go_ret
      exact ⟨ret_int e.symm, balloc hb⟩
    · have hv' : layB r a c = false := by simpa using hv
      clear h hv
      go_enter Tryz.func54, Tryz.ntmps54
      go_wp2_with (first | (go_at_call 29; refine (c_l1In _ _ _ _).mono ?_; rintro e w' ⟨rfl, rfl⟩) | (go_at_call 28; refine (c_spec_LayoutValid _ _ _ _).mono ?_; rintro e w1 ⟨rfl, hb⟩; obtain ⟨hc, hf⟩ := bcell hb))
      go_ret
      exact ⟨ret_int e.symm, balloc hb⟩

set_option maxRecDepth 20000 in
theorem c_impl_PagesNeeded (r a c n : Int) (w : World) :
    Calls Tryz.prog 11 #[(.agg #[.int .i64 r, .int .i64 a, .int .i64 c]), (.int .i64 (n))] w fun e w' => e = .returned (.int .i64 ((pnF r a c n))) ∧ Below w.heap.size w w' := by
  by_cases h : layB r a c = true ∧ 0 ≤ n ∧ n ≤ 60
  · have e : pnF r a c n = (n + r * a - 1) / (r * a) := if_pos h
    obtain ⟨hv, hn, hm⟩ := h
    have hi := inB_t hn hm
    obtain ⟨h1, h2, h3, h4, h5, h6, h7, h8⟩ := lay_mul hv
    go_enter Tryz.func11, Tryz.ntmps11
    go_wp2_with (first | (go_at_call 38; refine (c_places _ _ _ _ hv).mono ?_; rintro e w2 ⟨rfl, hb2⟩; obtain ⟨hc2, hf2⟩ := bcell hb2) | (go_at_call 37; refine (c_countValid _ _).mono ?_; rintro e w' ⟨rfl, rfl⟩) | (go_at_call 25; refine (c_impl_LayoutValid _ _ _ _).mono ?_; rintro e w1 ⟨rfl, hb⟩; obtain ⟨hc, hf⟩ := bcell hb))
    have hz : w.heap.size < w1.heap.size := by have := hb.size; simp at this; omega
    have hk0 := keep3_0 hb
    have hr0 : (r * a = 0) = False := by simp; omega
    have hw1 : IntKind.i64.wrap (n + r * a) = n + r * a := IntWalk.i64_in _ (by omega)
    have hw2 : IntKind.i64.wrap (n + r * a - 1) = n + r * a - 1 := IntWalk.i64_in _ (by omega)
    have hw3 : IntKind.i64.wrap ((n + r * a - 1).tdiv (r * a)) = (n + r * a - 1) / (r * a) := IntWalk.i64_quo _ _ (by omega)
    go_region_held3 (fun wx => Below w1.heap.size w1 wx ∧ wx.cell? ⟨w.heap.size, 0, none⟩ = some (.int .i64 (r)) ∧ wx.cell? ⟨w.heap.size, 1, none⟩ = some (.int .i64 (a)) ∧ wx.cell? ⟨w.heap.size, 2, none⟩ = some (.int .i64 (c))) (first | assumption | exact hk0 | exact keep3 hz (by assumption) (by assumption))
      (first | (go_at_call 38; refine (c_places _ _ _ _ hv).mono ?_; rintro e w2 ⟨rfl, hb2⟩))
    clear hw1 hw2 hw3 hr0
    rename_i hS
    go_wp2
    go_ret
    exact ⟨ret_int e.symm, bthen (balloc hb) hS.1⟩
  · have e : pnF r a c n = -1 := if_neg h
    by_cases hv : layB r a c = true
    · have hn : inB n 0 60 = false := inB_f (fun q => h ⟨hv, q⟩)
      clear h
      go_enter Tryz.func11, Tryz.ntmps11
      go_wp2_with (first | (go_at_call 37; refine (c_countValid _ _).mono ?_; rintro e w' ⟨rfl, rfl⟩) | (go_at_call 25; refine (c_impl_LayoutValid _ _ _ _).mono ?_; rintro e w1 ⟨rfl, hb⟩; obtain ⟨hc, hf⟩ := bcell hb))
      go_ret
      exact ⟨ret_int e.symm, balloc hb⟩
    · have hv' : layB r a c = false := by simpa using hv
      clear h hv
      go_enter Tryz.func11, Tryz.ntmps11
      go_wp2_with (first | (go_at_call 37; refine (c_countValid _ _).mono ?_; rintro e w' ⟨rfl, rfl⟩) | (go_at_call 25; refine (c_impl_LayoutValid _ _ _ _).mono ?_; rintro e w1 ⟨rfl, hb⟩; obtain ⟨hc, hf⟩ := bcell hb))
      go_ret
      exact ⟨ret_int e.symm, balloc hb⟩

def plB (r a c i : Int) : Bool := layB r a c && decide (0 ≤ i ∧ i < 60)
def plP (r a c i : Int) : Int := if plB r a c i = true then i / (r * a) else 0
def plR (r a c i : Int) : Int := if plB r a c i = true then (i % (r * a)) % r else 0
def plC (r a c i : Int) : Int := if plB r a c i = true then (i % (r * a)) / r else 0

end Go.Proofs.YtdgnhplaakjlgaaGreatDoor

namespace Go.Proofs.YtdgnhplaakjlgaaGreatDoor
set_option linter.unusedVariables false
open Go.RowKit

def ten (k : Nat) : Int := 10 ^ k
theorem ten_succ (k : Nat) : ten (k + 1) = ten k * 10 := by simp [ten, Int.pow_succ]
theorem ten_pos (k : Nat) : 1 ≤ ten k := by
  induction k with
  | zero => simp [ten]
  | succ k ih => rw [ten_succ]; omega
theorem ten_mono {a b : Nat} (h : a ≤ b) : ten a ≤ ten b := by
  induction b with
  | zero => have : a = 0 := by omega
            subst this; exact Int.le_refl _
  | succ b ih =>
    by_cases e : a = b + 1
    · subst e; exact Int.le_refl _
    · have h1 := ih (by omega); have h2 := ten_pos b; rw [ten_succ]; omega
theorem ten_bd {k : Nat} (h : k ≤ 17) : 1 ≤ ten k ∧ ten k ≤ 100000000000000000 := ⟨ten_pos k, by have := ten_mono h; have e : ten 17 = 100000000000000000 := (by decide); omega⟩

set_option maxRecDepth 20000 in
theorem c_powerOfTen (k : Nat) (w : World) (hk : k ≤ 17) :
    Calls Tryz.prog 52 #[(.int .i64 ((k : Int)))] w fun e w' => e = .returned (.int .i64 (ten k)) ∧ w = w' := by
  go_enter Tryz.func52, Tryz.ntmps52
  go_wp2
  go_loop [3, 5] (fun p i => ∃ j : Nat, j ≤ k ∧ i = .int .i64 j ∧ p = .int .i64 (ten j)) (fun _ i => k - (intOf i).toNat)
  case atStart => exact ⟨0, by omega, rfl, rfl⟩
  case round =>
    obtain ⟨j, hj, rfl, rfl⟩ := hrel
    by_cases hlt : j < k
    · obtain ⟨h1, h2⟩ := ten_bd (k := j) (by omega)
      have e : Hid (ten (j + 1) = ten j * 10) := ten_succ j
      go_wp2
      go_round
      case rel => exact ⟨j + 1, by omega, by go_num, by rw [e.out]⟩
      case measure => simp [intOf]; omega
    · have e : Hid (ten k = ten j) := by have : j = k := by omega
                                         subst this; rfl
      go_wp2
      go_ret
      exact ⟨ret_int e.out.symm, rfl⟩
set_option maxRecDepth 20000 in
theorem c_l1Ten (k : Nat) (w : World) (hk : k ≤ 17) :
    Calls Tryz.prog 69 #[(.int .i64 ((k : Int)))] w fun e w' => e = .returned (.int .i64 (ten k)) ∧ w = w' := by
  go_enter Tryz.func69, Tryz.ntmps69
  go_wp2
  go_loop [3, 4] (fun p i => ∃ j : Nat, j ≤ k ∧ i = .int .i64 j ∧ p = .int .i64 (ten j)) (fun _ i => k - (intOf i).toNat)
  case atStart => exact ⟨0, by omega, rfl, rfl⟩
  case round =>
    obtain ⟨j, hj, rfl, rfl⟩ := hrel
    by_cases hlt : j < k
    · obtain ⟨h1, h2⟩ := ten_bd (k := j) (by omega)
      have e : Hid (ten (j + 1) = ten j * 10) := ten_succ j
      go_wp2
      go_round
      case rel => exact ⟨j + 1, by omega, by go_num, by rw [e.out]⟩
      case measure => simp [intOf]; omega
    · have e : Hid (ten k = ten j) := by have : j = k := by omega
                                         subst this; rfl
      go_wp2
      go_ret
      exact ⟨ret_int e.out.symm, rfl⟩
theorem tmod_cases (n m : Int) (hm : 1 ≤ m) : (0 ≤ n.tmod m ∧ n.tmod m = n % m ∧ n.tmod m < m) ∨ (n.tmod m < 0 ∧ n.tmod m + m = n % m ∧ -m < n.tmod m) := by
  have h1 := Int.emod_nonneg n (b := m) (by omega)
  have h2 := Int.emod_lt_of_pos n (b := m) (by omega)
  by_cases hn : 0 ≤ n
  · left
    rw [Int.tmod_eq_emod_of_nonneg hn]
    exact ⟨h1, rfl, h2⟩
  · rw [Int.tmod_eq_emod]
    have hna : (m.natAbs : Int) = m := by omega
    by_cases hd : m ∣ n
    · left
      simp only [hd, or_true, if_true]
      omega
    · right
      have hz : n % m ≠ 0 := fun e => hd (Int.dvd_of_emod_eq_zero e)
      simp only [hn, hd, or_self, if_false]
      omega
set_option maxRecDepth 20000 in
theorem c_modulo (n m : Int) (w : World) (hm : 1 ≤ m) (hm' : m ≤ 100000000000000000) :
    Calls Tryz.prog 68 #[(.int .i64 (n)), (.int .i64 (m))] w fun e w' => e = .returned (.int .i64 (n % m)) ∧ w = w' := by
  have hr0 : (m = 0) = False := by simp; omega
  rcases tmod_cases n m hm with ⟨h1, h2, h3⟩ | ⟨h1, h2, h3⟩
  · have e : Hid (n.tmod m = n % m) := h2
    clear h2
    generalize hq : n.tmod m = q at h1 h3
    have hq' : Hid (n.tmod m = q) := hq
    go_enter Tryz.func68, Tryz.ntmps68
    go_wp2
    go_ret
    exact ⟨ret_int (by rw [← e.out, hq'.out]), rfl⟩
  · have e : Hid (n.tmod m + m = n % m) := h2
    clear h2
    generalize hq : n.tmod m = q at h1 h3
    have hq' : Hid (n.tmod m = q) := hq
    go_enter Tryz.func68, Tryz.ntmps68
    go_wp2
    go_ret
    exact ⟨ret_int (by rw [← e.out, hq'.out]), rfl⟩
set_option maxRecDepth 20000 in
theorem c_l4Rest (n m : Int) (w : World) (hm : 1 ≤ m) (hm' : m ≤ 100000000000000000) :
    Calls Tryz.prog 70 #[(.int .i64 (n)), (.int .i64 (m))] w fun e w' => e = .returned (.int .i64 (n % m)) ∧ w = w' := by
  have hr0 : (m = 0) = False := by simp; omega
  have h4 : (n.tmod m + m) % m = n % m ∧ 0 ≤ n.tmod m + m ∧ n.tmod m + m ≤ 200000000000000000 := by
    have hb := Int.emod_nonneg n (b := m) (by omega)
    have hc := Int.emod_lt_of_pos n (b := m) (by omega)
    rcases tmod_cases n m hm with ⟨h1, h2, h3⟩ | ⟨h1, h2, h3⟩
    · refine ⟨?_, by omega, by omega⟩
      rw [h2, Int.add_emod_right, Int.emod_emod_of_dvd _ (Int.dvd_refl _)]
    · refine ⟨?_, by omega, by omega⟩
      rw [h2, Int.emod_emod_of_dvd _ (Int.dvd_refl _)]
  obtain ⟨h4, h5, h6⟩ := h4
  have e : Hid ((n.tmod m + m) % m = n % m) := h4
  clear h4
  generalize hq : n.tmod m = q at h5 h6
  have hq' : Hid (n.tmod m = q) := hq
  go_enter Tryz.func70, Tryz.ntmps70
  go_wp2
  go_ret
  exact ⟨ret_int (by rw [← e.out, hq'.out]), rfl⟩
end Go.Proofs.YtdgnhplaakjlgaaGreatDoor

namespace Go.Proofs.YtdgnhplaakjlgaaGreatDoor
set_option linter.unusedVariables false
open Go.RowKit

/-- a number rounded down to units of p -/
def rndF (n p way : Int) : Int :=
  if way = 0 ∨ 2 * (n % p) < p then n / p
  else if p < 2 * (n % p) then n / p + 1
  else if way = 1 ∧ n < 0 ∨ way = 2 ∧ (n / p) % 2 = 0 then n / p else n / p + 1
def rndB (n d way : Int) : Bool := decide (-1000000000 ≤ n ∧ n ≤ 1000000000 ∧ 0 ≤ d ∧ d ≤ 6 ∧ 0 ≤ way ∧ way ≤ 2)
def rnd (n d way : Int) : Int := if rndB n d way = true then rndF n (ten d.toNat) way else 0
def wayB (d way : Int) : Bool := decide (0 ≤ d ∧ d ≤ 6 ∧ 0 ≤ way ∧ way ≤ 2)
theorem rndB_eq (n d way : Int) : rndB n d way = (inB n (-1000000000) 1000000000 && wayB d way) := by
  unfold rndB inB wayB; rw [Bool.eq_iff_iff]; simp; omega

theorem ten6 {k : Nat} (h : k ≤ 6) : 1 ≤ ten k ∧ ten k ≤ 1000000 := ⟨ten_pos k, by have := ten_mono h; have e : ten 6 = 1000000 := (by decide); omega⟩
/-- the plain facts on a quotient and a remainder -/
theorem div_facts {n p : Int} (h1 : 1 ≤ p) (hn : -1000000000 ≤ n) (hm : n ≤ 1000000000) : 0 ≤ n % p ∧ n % p < p ∧ n - n % p = p * (n / p) ∧ -1000000000 ≤ n / p ∧ n / p ≤ 1000000000 := by
  have a := Int.emod_nonneg n (b := p) (by omega)
  have b := Int.emod_lt_of_pos n (b := p) (by omega)
  have c := Int.mul_ediv_add_emod n p
  refine ⟨a, b, by omega, ?_, ?_⟩
  · have : -1000000000 / p ≤ n / p := Int.ediv_le_ediv (by omega) hn
    have h2 : -1000000000 ≤ -1000000000 / p := by
      rw [Int.le_ediv_iff_mul_le (by omega)]
      have : 1000000000 * 1 ≤ 1000000000 * p := Int.mul_le_mul_of_nonneg_left h1 (by omega)
      omega
    omega
  · have : n / p ≤ 1000000000 / p := Int.ediv_le_ediv (by omega) hm
    have h2 : 1000000000 / p ≤ 1000000000 := Int.ediv_le_self _ (by omega)
    omega
theorem quo_exact {n p q r : Int} (h1 : 1 ≤ p) (h : n - r = p * q) : (n - r).tdiv p = q := by
  rw [h, Int.mul_tdiv_cancel_left _ (by omega)]

set_option maxRecDepth 20000 in
theorem c_within (n b : Int) (w : World) (hb : 0 ≤ b) (hb' : b ≤ 1000000000000) :
    Calls Tryz.prog 67 #[(.int .i64 (n)), (.int .i64 (b))] w fun e w' => e = .returned (.bool (inB n (-b) b)) ∧ w = w' := by
  go_enter Tryz.func67, Tryz.ntmps67
  go_wp2
  all_goals (go_ret; refine ⟨ret_bool ?_, rfl⟩; go_light; unfold inB; simp; try omega)
set_option maxRecDepth 20000 in
theorem c_roundingValid (d way : Int) (w : World) :
    Calls Tryz.prog 43 #[(.int .i64 (d)), (.int .i64 (way))] w fun e w' => e = .returned (.bool (wayB d way)) ∧ w = w' := by
  go_enter Tryz.func43, Tryz.ntmps43
  go_wp2
  all_goals (go_ret; refine ⟨ret_bool ?_, rfl⟩; go_light; unfold wayB; rw [Bool.eq_iff_iff]; simp; try omega)
set_option maxRecDepth 20000 in
theorem c_l6Way (d way : Int) (w : World) :
    Calls Tryz.prog 46 #[(.int .i64 (d)), (.int .i64 (way))] w fun e w' => e = .returned (.bool (wayB d way)) ∧ w = w' := by
  have E : Hid (wayB d way = (inB d 0 6 && inB way 0 2)) := by
    show _ = _
    unfold wayB inB; rw [Bool.eq_iff_iff]; simp; omega
  cases h : inB d 0 6
  all_goals
    rw [h] at E
    go_enter Tryz.func46, Tryz.ntmps46
    go_wp2_with (go_at_call 29; refine (c_l1In _ _ _ _).mono ?_; rintro e w' ⟨rfl, rfl⟩)
    go_ret
    exact ⟨ret_bool (by rw [E.out]; rfl), rfl⟩
/-- all that a walk of a rounding wants, in plain variables: remainder x, quotient q -/
theorem rnd_setup {n p way : Int} (hp1 : 1 ≤ p) (hp6 : p ≤ 1000000) (hn : -1000000000 ≤ n) (hm : n ≤ 1000000000) :
    ∃ x q y : Int, Hid (n % p = x) ∧ Hid (n / p = q) ∧ Hid (q % 2 = y) ∧ (n - x).tdiv p = q ∧ 0 ≤ x ∧ x < p ∧ -1000000000 ≤ q ∧ q ≤ 1000000000 ∧ (2 * x = p → n ≠ 0) ∧ 0 ≤ y ∧ y < 2 ∧
      Hid (rndF n p way = if way = 0 ∨ 2 * x < p then q else if p < 2 * x then q + 1 else if way = 1 ∧ n < 0 ∨ way = 2 ∧ y = 0 then q else q + 1) := by
  obtain ⟨f1, f2, f3, f4, f5⟩ := div_facts (p := p) hp1 hn hm
  exact ⟨n % p, n / p, _, rfl, rfl, rfl, quo_exact hp1 f3, f1, f2, f4, f5, fun h e => by subst e; simp at h; omega, Int.emod_nonneg _ (by omega), Int.emod_lt_of_pos _ (by omega), rfl⟩
/-- the cases that a walk of a rounding parts on -/
theorem rnd_cases {n p x y way : Int} (h0 : 0 ≤ way) (h2 : way ≤ 2) (hx : 2 * x = p → n ≠ 0) (hy0 : 0 ≤ y) (hy2 : y < 2) :
    way = 0 ∨ ((way = 1 ∨ way = 2) ∧ 2 * x < p) ∨ ((way = 1 ∨ way = 2) ∧ ¬ 2 * x < p ∧ p < 2 * x) ∨ (way = 1 ∧ ¬ 2 * x < p ∧ ¬ p < 2 * x ∧ n < 0) ∨ (way = 1 ∧ ¬ 2 * x < p ∧ ¬ p < 2 * x ∧ 0 < n) ∨ (way = 2 ∧ ¬ 2 * x < p ∧ ¬ p < 2 * x ∧ y = 0) ∨ (way = 2 ∧ ¬ 2 * x < p ∧ ¬ p < 2 * x ∧ y = 1) := by
  omega

set_option maxRecDepth 20000 in
set_option maxHeartbeats 400000 in
theorem c_l6Round (n way : Int) (k : Nat) (w : World) (hn : -1000000000 ≤ n) (hm : n ≤ 1000000000) (hk : k ≤ 6) (hw0 : 0 ≤ way) (hw2 : way ≤ 2) :
    Calls Tryz.prog 47 #[(.int .i64 (n)), (.int .i64 ((k : Int))), (.int .i64 (way))] w fun e w' => e = .returned (.int .i64 (rndF n (ten k) way)) ∧ w = w' := by
  obtain ⟨hp1, hp6⟩ := ten6 hk
  have hk17 : k ≤ 17 := by omega
  generalize hp : ten k = p at hp1 hp6
  have HP : Hid (ten k = p) := hp
  clear hp
  obtain ⟨x, q, y, HX, HQ, HY, hq, f1, f2, f3, f4, f5, f6, f7, E⟩ := rnd_setup (way := way) hp1 hp6 hn hm
  have hr0 : (p = 0) = False := by simp; omega
  have hc := rnd_cases hw0 hw2 f5 f6 f7
  clear f5
  rcases hc with h | ⟨h | h, h2⟩ | ⟨h | h, h2, h3⟩ | ⟨h, h2, h3, h4⟩ | ⟨h, h2, h3, h4⟩ | ⟨h, h2, h3, rfl⟩ | ⟨h, h2, h3, rfl⟩
  all_goals
    subst h
    go_enter Tryz.func47, Tryz.ntmps47
    go_wp2_with (first | (go_at_call 69; refine (c_l1Ten k _ hk17).mono ?_; rw [HP.out]; rintro e w' ⟨rfl, rfl⟩) | (go_at_call 70; refine (c_l4Rest _ _ _ (by omega) (by omega)).mono ?_; (first | rw [HX.out] | rw [HY.out]); rintro e w' ⟨rfl, rfl⟩))
    go_ret
    refine ⟨ret_int ?_, rfl⟩
    go_light
    rw [E.out]
    (try simp)
    (try ((repeat' split) <;> omega))
set_option maxRecDepth 20000 in
set_option maxHeartbeats 400000 in
theorem c_impl_RoundEntry (n d way : Int) (w : World) :
    Calls Tryz.prog 44 #[(.int .i64 (n)), (.int .i64 (d)), (.int .i64 (way))] w fun e w' => e = .returned (.tuple #[(.int .i64 (rnd n d way)), .bool (rndB n d way)]) ∧ w = w' := by
  by_cases h : rndB n d way = true
  · have h' : -1000000000 ≤ n ∧ n ≤ 1000000000 ∧ 0 ≤ d ∧ d ≤ 6 ∧ 0 ≤ way ∧ way ≤ 2 := by simpa [rndB] using h
    obtain ⟨hn, hm, h3, h4, hw0, hw2⟩ := h'
    obtain ⟨k, rfl⟩ : ∃ k : Nat, d = k := ⟨d.toNat, by omega⟩
    have i1 := inB_t hn hm
    have i2 : wayB k way = true := decide_eq_true ⟨h3, h4, hw0, hw2⟩
    have hk : k ≤ 6 := by omega
    have E0 : Hid (rnd n k way = rndF n (ten k) way ∧ rndB n k way = true) := ⟨if_pos h, h⟩
    clear h
    obtain ⟨hp1, hp6⟩ := ten6 hk
    have hk17 : k ≤ 17 := by omega
    generalize hp : ten k = p at hp1 hp6 E0
    have HP : Hid (ten k = p) := hp
    clear hp
    obtain ⟨x, q, y, HX, HQ, HY, hq, f1, f2, f3, f4, f5, f6, f7, E⟩ := rnd_setup (way := way) hp1 hp6 hn hm
    have hr0 : (p = 0) = False := by simp; omega
    have hc := rnd_cases hw0 hw2 f5 f6 f7
    clear f5
    rcases hc with h | ⟨h | h, h2⟩ | ⟨h | h, h2, h3⟩ | ⟨h, h2, h3, h4⟩ | ⟨h, h2, h3, h4⟩ | ⟨h, h2, h3, rfl⟩ | ⟨h, h2, h3, rfl⟩
    all_goals
      subst h
      go_enter Tryz.func44, Tryz.ntmps44
      go_wp2_with (first | (go_at_call 67; refine (c_within _ _ _ (by omega) (by omega)).mono ?_; rintro e w' ⟨rfl, rfl⟩) | (go_at_call 43; refine (c_roundingValid _ _ _).mono ?_; rintro e w' ⟨rfl, rfl⟩) | (go_at_call 52; refine (c_powerOfTen k _ hk17).mono ?_; rw [HP.out]; rintro e w' ⟨rfl, rfl⟩) | (go_at_call 68; refine (c_modulo _ _ _ (by omega) (by omega)).mono ?_; (first | rw [HX.out] | rw [HY.out]); rintro e w' ⟨rfl, rfl⟩))
      go_ret2
      refine ⟨?_, rfl⟩
      rw [E0.out.1, E0.out.2, E.out]
      go_light
      have E2 : ∀ a b : Int, a = b → Ending.returned (.tuple #[.int .i64 a, .bool true]) = .returned (.tuple #[.int .i64 b, .bool true]) := fun a b h => by rw [h]
      refine E2 _ _ ?_
      (try simp)
      (try ((repeat' split) <;> omega))
  · have E : Hid (rnd n d way = 0 ∧ rndB n d way = false) := ⟨if_neg h, by simpa using h⟩
    rw [rndB_eq] at h
    have hd : inB n (-1000000000) 1000000000 = false ∨ (inB n (-1000000000) 1000000000 = true ∧ wayB d way = false) := by
      cases h1 : inB n (-1000000000) 1000000000
      · exact .inl rfl
      · exact .inr ⟨rfl, by simpa [h1] using h⟩
    clear h
    rcases hd with h | ⟨h, h2⟩
    all_goals
      go_enter Tryz.func44, Tryz.ntmps44
      go_wp2_with (first | (go_at_call 67; refine (c_within _ _ _ (by omega) (by omega)).mono ?_; rintro e w' ⟨rfl, rfl⟩) | (go_at_call 43; refine (c_roundingValid _ _ _).mono ?_; rintro e w' ⟨rfl, rfl⟩))
      go_ret2
      exact ⟨by rw [E.out.1, E.out.2]; rfl, rfl⟩
end Go.Proofs.YtdgnhplaakjlgaaGreatDoor
