/- Contracts: the index of a place, program and reference. -/
import Derived.Test.YtjlehpoicplmpaaLay
namespace Go.Proofs.Ytjlehpoicplmpaa
set_option linter.unusedVariables false
open Go.RowKit

def ipB (r a c p x y : Int) : Bool := layB r a c && decide (0 ≤ p ∧ p < 60 ∧ 0 ≤ x ∧ x < r ∧ 0 ≤ y ∧ y < a)
def ipN (r a c p x y : Int) : Int := if ipB r a c p x y = true ∧ p * (r * a) + y * r + x < 60 then p * (r * a) + y * r + x else -1

theorem c_spec_IndexOfPlace (r a c p x y : Int) (w : World) :
    Calls Try.prog 36 #[(.agg #[.int .i64 r, .int .i64 a, .int .i64 c]), (.int .i64 (p)), (.int .i64 (x)), (.int .i64 (y))] w fun e w' => e = .returned (.int .i64 (ipN r a c p x y)) ∧ Below w.heap.size w w' := by
  by_cases h : ipB r a c p x y = true
  · have hh := h
    unfold ipB at hh
    simp only [Bool.and_eq_true, decide_eq_true_eq] at hh
    obtain ⟨hv, p1, p2, p3, p4, p5, p6⟩ := hh
    obtain ⟨h1, h2, h3, h4, h5, h6, h7, h8⟩ := lay_mul hv
    have q1 : inB p 0 59 = true := inB_t p1 (by omega)
    have q2 : inB x 0 (r - 1) = true := inB_t p3 (by omega)
    have q3 : inB y 0 (a - 1) = true := inB_t p5 (by omega)
    have m1 : 0 ≤ p * r := Int.mul_nonneg (by omega) (by omega)
    have m2 : p * r ≤ 59 * 20 := Int.mul_le_mul (by omega) h2 (by omega) (by omega)
    have m3 : 0 ≤ p * r * a := Int.mul_nonneg m1 (by omega)
    have m4 : p * r * a ≤ (59 * 20) * 6 := Int.mul_le_mul m2 h4 (by omega) (by omega)
    have m5 : 0 ≤ y * r := Int.mul_nonneg (by omega) (by omega)
    have m6 : y * r ≤ 6 * 20 := Int.mul_le_mul (by omega) h2 (by omega) (by omega)
    have m7 : p * (r * a) = p * r * a := (Int.mul_assoc _ _ _).symm
    have E : Hid (ipN r a c p x y = if p * r * a + y * r + x < 60 then p * r * a + y * r + x else -1) := by
      show _ = _
      unfold ipN; rw [m7]; simp [h]
    clear h m7
    go_enter Try.func36, Try.ntmps36
    go_wp2_with (first | (go_at_call 74; refine (c_l1In _ _ _ _).mono ?_; rintro e w' ⟨rfl, rfl⟩) | (go_at_call 73; refine (c_spec_LayoutValid _ _ _ _).mono ?_; rintro e w1 ⟨rfl, hb⟩; obtain ⟨hc, hf⟩ := bcell hb))
    all_goals
      go_ret
      refine ⟨ret_int ?_, balloc hb⟩
      rw [E.out]
      first | rw [if_pos (by omega)] | rw [if_neg (by omega)]
  · have E : Hid (ipN r a c p x y = -1) := if_neg (fun q => h q.1)
    by_cases hl : layB r a c = true
    · have hv := lay_mul hl
      have hd : inB p 0 59 = false ∨ (inB p 0 59 = true ∧ inB x 0 (r - 1) = false) ∨ (inB p 0 59 = true ∧ inB x 0 (r - 1) = true ∧ inB y 0 (a - 1) = false) := by
        cases e1 : inB p 0 59
        · exact .inl rfl
        · cases e2 : inB x 0 (r - 1)
          · exact .inr (.inl ⟨rfl, rfl⟩)
          · refine .inr (.inr ⟨rfl, rfl, inB_f (fun q => h ?_)⟩)
            have e1 := inB_iff.1 e1
            have e2 := inB_iff.1 e2
            unfold ipB; simp [hl]; omega
      obtain ⟨h1, h2, h3, h4, h5, h6, h7, h8⟩ := hv
      clear h
      rcases hd with q1 | ⟨q1, q2⟩ | ⟨q1, q2, q3⟩
      all_goals
        go_enter Try.func36, Try.ntmps36
        go_wp2_with (first | (go_at_call 74; refine (c_l1In _ _ _ _).mono ?_; rintro e w' ⟨rfl, rfl⟩) | (go_at_call 73; refine (c_spec_LayoutValid _ _ _ _).mono ?_; rintro e w1 ⟨rfl, hb⟩; obtain ⟨hc, hf⟩ := bcell hb))
        go_ret
        exact ⟨ret_int E.out.symm, balloc hb⟩
    · have hl' : layB r a c = false := by simpa using hl
      clear h hl
      go_enter Try.func36, Try.ntmps36
      go_wp2_with (first | (go_at_call 74; refine (c_l1In _ _ _ _).mono ?_; rintro e w' ⟨rfl, rfl⟩) | (go_at_call 73; refine (c_spec_LayoutValid _ _ _ _).mono ?_; rintro e w1 ⟨rfl, hb⟩; obtain ⟨hc, hf⟩ := bcell hb))
      go_ret
      exact ⟨ret_int E.out.symm, balloc hb⟩

theorem c_impl_IndexOfPlace (r a c p x y : Int) (w : World) :
    Calls Try.prog 35 #[(.agg #[.int .i64 r, .int .i64 a, .int .i64 c]), (.int .i64 (p)), (.int .i64 (x)), (.int .i64 (y))] w fun e w' => e = .returned (.int .i64 (ipN r a c p x y)) ∧ Below w.heap.size w w' := by
  by_cases h : ipB r a c p x y = true
  · have hh := h
    unfold ipB at hh
    simp only [Bool.and_eq_true, decide_eq_true_eq] at hh
    obtain ⟨hv, p1, p2, p3, p4, p5, p6⟩ := hh
    obtain ⟨h1, h2, h3, h4, h5, h6, h7, h8⟩ := lay_mul hv
    have m3 : 0 ≤ p * (r * a) := Int.mul_nonneg p1 (by omega)
    have m4 : p * (r * a) ≤ 59 * 120 := Int.mul_le_mul (by omega) h8 (by omega) (by omega)
    have m5 : 0 ≤ y * r := Int.mul_nonneg (by omega) (by omega)
    have m6 : y * r ≤ 6 * 20 := Int.mul_le_mul (by omega) h2 (by omega) (by omega)
    have E : Hid (ipN r a c p x y = if p * (r * a) + y * r + x < 60 then p * (r * a) + y * r + x else -1) := by
      show _ = _
      unfold ipN; simp [h]
    clear h
    go_enter Try.func35, Try.ntmps35
    go_wp2_with (first | (go_at_call 71; refine (c_impl_LayoutValid _ _ _ _).mono ?_; rintro e w1 ⟨rfl, hb⟩; obtain ⟨hc, hf⟩ := bcell hb))
    have hz : w.heap.size < w1.heap.size := by have := hb.size; simp at this; omega
    have hk0 := keep3_0 hb
    have hw1 : IntKind.i64.wrap (p * (r * a)) = p * (r * a) := IntWalk.i64_in _ (by omega)
    have hw2 : IntKind.i64.wrap (y * r) = y * r := IntWalk.i64_in _ (by omega)
    have hw3 : IntKind.i64.wrap (p * (r * a) + y * r) = p * (r * a) + y * r := IntWalk.i64_in _ (by omega)
    have hw4 : IntKind.i64.wrap (p * (r * a) + y * r + x) = p * (r * a) + y * r + x := IntWalk.i64_in _ (by omega)
    go_region_held3 (fun wx => Below w1.heap.size w1 wx ∧ wx.cell? ⟨w.heap.size, 0, none⟩ = some (.int .i64 (r)) ∧ wx.cell? ⟨w.heap.size, 1, none⟩ = some (.int .i64 (a)) ∧ wx.cell? ⟨w.heap.size, 2, none⟩ = some (.int .i64 (c))) (first | assumption | exact hk0 | exact keep3 hz (by assumption) (by assumption))
      (first | (go_at_call 72; refine (c_places _ _ _ _ hv).mono ?_; rintro e w2 ⟨rfl, hb2⟩))
    clear hw1 hw2 hw3 hw4
    rename_i hS
    have hS1 := hS.1
    clear hS
    go_wp2
    all_goals
      go_ret
      refine ⟨ret_int ?_, bthen (balloc hb) hS1⟩
      rw [E.out]
      first | rw [if_pos (by omega)] | rw [if_neg (by omega)]
  · have E : Hid (ipN r a c p x y = -1) := if_neg (fun q => h q.1)
    have hd : layB r a c = false ∨ (layB r a c = true ∧ ¬ (0 ≤ p ∧ p < 60 ∧ 0 ≤ x ∧ x < r ∧ 0 ≤ y ∧ y < a)) := by
      cases hl : layB r a c
      · exact .inl rfl
      · exact .inr ⟨rfl, fun q => h (by unfold ipB; simp [hl]; omega)⟩
    clear h
    rcases hd with hl | ⟨hl, hn⟩
    · go_enter Try.func35, Try.ntmps35
      go_wp2_with (first | (go_at_call 71; refine (c_impl_LayoutValid _ _ _ _).mono ?_; rintro e w1 ⟨rfl, hb⟩; obtain ⟨hc, hf⟩ := bcell hb))
      go_ret
      exact ⟨ret_int E.out.symm, balloc hb⟩
    · have hd : p < 0 ∨ (0 ≤ p ∧ 60 ≤ p) ∨ (0 ≤ p ∧ p < 60 ∧ x < 0) ∨ (0 ≤ p ∧ p < 60 ∧ 0 ≤ x ∧ r ≤ x) ∨ (0 ≤ p ∧ p < 60 ∧ 0 ≤ x ∧ x < r ∧ y < 0) ∨ (0 ≤ p ∧ p < 60 ∧ 0 ≤ x ∧ x < r ∧ 0 ≤ y ∧ a ≤ y) := by omega
      clear hn
      rcases hd with h1 | ⟨h1, h2⟩ | ⟨h1, h2, h3⟩ | ⟨h1, h2, h3, h4⟩ | ⟨h1, h2, h3, h4, h5⟩ | ⟨h1, h2, h3, h4, h5, h6⟩
      all_goals
        go_enter Try.func35, Try.ntmps35
        go_wp2_with (first | (go_at_call 71; refine (c_impl_LayoutValid _ _ _ _).mono ?_; rintro e w1 ⟨rfl, hb⟩; obtain ⟨hc, hf⟩ := bcell hb))
        go_ret
        exact ⟨ret_int E.out.symm, balloc hb⟩
end Go.Proofs.Ytjlehpoicplmpaa
