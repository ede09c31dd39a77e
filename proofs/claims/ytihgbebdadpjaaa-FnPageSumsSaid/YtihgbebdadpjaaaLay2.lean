/- Contracts: the index of a place, program and reference. -/
import Derived.Test.YtihgbebdadpjaaaLay
namespace Go.Proofs.Ytihgbebdadpjaaa
set_option linter.unusedVariables false
open Go.RowKit

def ipB (r a c p x y : Int) : Bool := layB r a c && decide (0 ≤ p ∧ p < 60 ∧ 0 ≤ x ∧ x < r ∧ 0 ≤ y ∧ y < a)
def ipN (r a c p x y : Int) : Int := if ipB r a c p x y = true ∧ p * (r * a) + y * r + x < 60 then p * (r * a) + y * r + x else -1

theorem c_impl_IndexOfPlace (r a c p x y : Int) (w : World) :
    Calls Try.prog 17 #[(.agg #[.int .i64 r, .int .i64 a, .int .i64 c]), (.int .i64 (p)), (.int .i64 (x)), (.int .i64 (y))] w fun e w' => e = .returned (.int .i64 (ipN r a c p x y)) ∧ Below w.heap.size w w' := by
  by_cases h : ipB r a c p x y = true
  · have hh := h
    unfold ipB at hh
    simp only [Bool.and_eq_true, decide_eq_true_eq] at hh
    obtain ⟨hv, p1, p2, p3, p4, p5, p6⟩ := hh
    obtain ⟨h1, h2, h3, h4, h5, h6, h7, h8⟩ := lay_mul hv
    have m3 : 0 ≤ p * (r * a) := Int.mul_nonneg p1 (by omega)
    have m4 : p * (r * a) ≤ 59 * 120 := Int.mul_le_mul (by omega) h8 (by omega) (by omega)
    have m5 : 0 ≤ y * r := Int.mul_nonneg (by omega) (by omega)
    have m6 : y * r ≤ 6 * 20 := Int.mul_le_mul (by omega) h2 (by omega) (by omega)
    have E : Hid (ipN r a c p x y = if p * (r * a) + y * r + x < 60 then p * (r * a) + y * r + x else -1) := by
      show _ = _
      unfold ipN; simp [h]
    clear h
    go_enter Try.func17, Try.ntmps17
    go_wp2_with (first | (go_at_call 39; refine (c_impl_LayoutValid _ _ _ _).mono ?_; rintro e w1 ⟨rfl, hb⟩; obtain ⟨hc, hf⟩ := bcell hb))
    have hz : w.heap.size < w1.heap.size := by have := hb.size; simp at this; omega
    have hk0 := keep3_0 hb
    have hw1 : IntKind.i64.wrap (p * (r * a)) = p * (r * a) := IntWalk.i64_in _ (by omega)
    have hw2 : IntKind.i64.wrap (y * r) = y * r := IntWalk.i64_in _ (by omega)
    have hw3 : IntKind.i64.wrap (p * (r * a) + y * r) = p * (r * a) + y * r := IntWalk.i64_in _ (by omega)
    have hw4 : IntKind.i64.wrap (p * (r * a) + y * r + x) = p * (r * a) + y * r + x := IntWalk.i64_in _ (by omega)
    go_region_held3 (fun wx => Below w1.heap.size w1 wx ∧ wx.cell? ⟨w.heap.size, 0, none⟩ = some (.int .i64 (r)) ∧ wx.cell? ⟨w.heap.size, 1, none⟩ = some (.int .i64 (a)) ∧ wx.cell? ⟨w.heap.size, 2, none⟩ = some (.int .i64 (c))) (first | assumption | exact hk0 | exact keep3 hz (by assumption) (by assumption))
      (first | (go_at_call 40; refine (c_places _ _ _ _ hv).mono ?_; rintro e w2 ⟨rfl, hb2⟩))
    clear hw1 hw2 hw3 hw4
    rename_i hS
    have hS1 := hS.1
    clear hS
    go_wp2
    all_goals
      go_ret
      refine ⟨ret_int ?_, bthen (balloc hb) hS1⟩
      rw [E.out]
      first | rw [if_pos (by omega)] | rw [if_neg (by omega)]
  · have E : Hid (ipN r a c p x y = -1) := if_neg (fun q => h q.1)
    have hd : layB r a c = false ∨ (layB r a c = true ∧ ¬ (0 ≤ p ∧ p < 60 ∧ 0 ≤ x ∧ x < r ∧ 0 ≤ y ∧ y < a)) := by
      cases hl : layB r a c
      · exact .inl rfl
      · exact .inr ⟨rfl, fun q => h (by unfold ipB; simp [hl]; omega)⟩
    clear h
    rcases hd with hl | ⟨hl, hn⟩
    · go_enter Try.func17, Try.ntmps17
      go_wp2_with (first | (go_at_call 39; refine (c_impl_LayoutValid _ _ _ _).mono ?_; rintro e w1 ⟨rfl, hb⟩; obtain ⟨hc, hf⟩ := bcell hb))
      go_ret
      exact ⟨ret_int E.out.symm, balloc hb⟩
    · have hd : p < 0 ∨ (0 ≤ p ∧ 60 ≤ p) ∨ (0 ≤ p ∧ p < 60 ∧ x < 0) ∨ (0 ≤ p ∧ p < 60 ∧ 0 ≤ x ∧ r ≤ x) ∨ (0 ≤ p ∧ p < 60 ∧ 0 ≤ x ∧ x < r ∧ y < 0) ∨ (0 ≤ p ∧ p < 60 ∧ 0 ≤ x ∧ x < r ∧ 0 ≤ y ∧ a ≤ y) := by omega
      clear hn
      rcases hd with h1 | ⟨h1, h2⟩ | ⟨h1, h2, h3⟩ | ⟨h1, h2, h3, h4⟩ | ⟨h1, h2, h3, h4, h5⟩ | ⟨h1, h2, h3, h4, h5, h6⟩
      all_goals
        go_enter Try.func17, Try.ntmps17
        go_wp2_with (first | (go_at_call 39; refine (c_impl_LayoutValid _ _ _ _).mono ?_; rintro e w1 ⟨rfl, hb⟩; obtain ⟨hc, hf⟩ := bcell hb))
        go_ret
        exact ⟨ret_int E.out.symm, balloc hb⟩
end Go.Proofs.Ytihgbebdadpjaaa
