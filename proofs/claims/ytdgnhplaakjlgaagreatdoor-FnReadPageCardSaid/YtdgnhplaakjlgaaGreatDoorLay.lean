/- Contracts of the layout functions: a layout's validity, its places, the pages that are needed, a place's index: program and reference compute the same integer functions. -/
import Derived.Test.YtdgnhplaakjlgaaGreatDoorIn1
import Derived.WalkKit
import Derived.ProofKit
import Derived.Deep.RegionHeld3
import Derived.Deep.Light
import Derived.Deep.QuietTactic
import Derived.BigQuiet
import Derived.WalkSmall
namespace Go.Proofs.YtdgnhplaakjlgaaGreatDoor
set_option linter.unusedVariables false
open Go.RowKit



theorem keep3 {w1 wa wb : World} {b : Nat} {v0 v1 v2 : Value} (hb : b < w1.heap.size) (h : Below w1.heap.size w1 wa ∧ wa.cell? ⟨b, 0, none⟩ = some v0 ∧ wa.cell? ⟨b, 1, none⟩ = some v1 ∧ wa.cell? ⟨b, 2, none⟩ = some v2) (k : Below wa.heap.size wa wb) :
    Below w1.heap.size w1 wb ∧ wb.cell? ⟨b, 0, none⟩ = some v0 ∧ wb.cell? ⟨b, 1, none⟩ = some v1 ∧ wb.cell? ⟨b, 2, none⟩ = some v2 := by
  obtain ⟨h0, h1, h2, h3⟩ := h
  have hs := h0.size
  obtain ⟨hc, _⟩ := bcell k
  exact ⟨bthen h0 k, by rw [hc _ _ (by omega)]; exact h1, by rw [hc _ _ (by omega)]; exact h2, by rw [hc _ _ (by omega)]; exact h3⟩
theorem keep3_0 {w w1 : World} {v0 v1 v2 : Value} {t : TypeId} (hb : Below (w.alloc (.cells #[v0, v1, v2] t)).heap.size (w.alloc (.cells #[v0, v1, v2] t)) w1) :
    Below w1.heap.size w1 w1.drew ∧ w1.drew.cell? ⟨w.heap.size, 0, none⟩ = some v0 ∧ w1.drew.cell? ⟨w.heap.size, 1, none⟩ = some v1 ∧ w1.drew.cell? ⟨w.heap.size, 2, none⟩ = some v2 := by
  obtain ⟨hc, _⟩ := bcell hb
  refine ⟨(Below.refl _ _).drew, ?_, ?_, ?_⟩ <;> (show w1.cell? _ = _; rw [hc _ _ (by simp)]; simp [go_sem])

theorem keep3_1 {w w1 w2 : World} {v0 v1 v2 : Value} {t : TypeId} (hb : Below (w.alloc (.cells #[v0, v1, v2] t)).heap.size (w.alloc (.cells #[v0, v1, v2] t)) w1) (hb2 : Below w1.heap.size w1 w2) :
    Below w2.heap.size w2 w2.drew ∧ w2.drew.cell? ⟨w.heap.size, 0, none⟩ = some v0 ∧ w2.drew.cell? ⟨w.heap.size, 1, none⟩ = some v1 ∧ w2.drew.cell? ⟨w.heap.size, 2, none⟩ = some v2 :=
  keep3_0 (hb.trans (hb2.mono hb.size))

def layB (r a c : Int) : Bool := decide (1 ≤ r ∧ r ≤ 20 ∧ 1 ≤ a ∧ a ≤ 6 ∧ 1 ≤ c ∧ c ≤ 12)

set_option maxRecDepth 20000 in
theorem c_impl_LayoutValid (r a c : Int) (w : World) :
    Calls Tryz.prog 25 #[(.agg #[.int .i64 r, .int .i64 a, .int .i64 c])] w fun e w' => e = .returned (.bool (layB r a c)) ∧ Below w.heap.size w w' := by
  go_enter Tryz.func25, Tryz.ntmps25
  go_wp2
  all_goals (go_ret; refine ⟨ret_bool ?_, (Below.refl _ _).alloc (Nat.le_refl _) _⟩; go_light; unfold layB; rw [Bool.eq_iff_iff]; simp; try omega)

set_option maxRecDepth 20000 in
theorem c_spec_LayoutValid (r a c : Int) (w : World) :
    Calls Tryz.prog 28 #[(.agg #[.int .i64 r, .int .i64 a, .int .i64 c])] w fun e w' => e = .returned (.bool (layB r a c)) ∧ Below w.heap.size w w' := by
  go_enter Tryz.func28, Tryz.ntmps28
  go_wp2_with (go_at_call 29; refine (c_l1In _ _ _ _).mono ?_; rintro e w' ⟨rfl, rfl⟩)
  all_goals (go_ret; refine ⟨ret_bool ?_, (Below.refl _ _).alloc (Nat.le_refl _) _⟩; go_light; unfold layB; rw [Bool.eq_iff_iff]; simp_all [inB]; try omega)

set_option maxRecDepth 20000 in
theorem c_places (r a c : Int) (w : World) (hv : layB r a c = true) :
    Calls Tryz.prog 38 #[(.agg #[.int .i64 r, .int .i64 a, .int .i64 c])] w fun e w' => e = .returned (.int .i64 ((r * a))) ∧ Below w.heap.size w w' := by
  have h : 1 ≤ r ∧ r ≤ 20 ∧ 1 ≤ a ∧ a ≤ 6 := by unfold layB at hv; simp at hv; omega
  obtain ⟨h1, h2, h3, h4⟩ := h
  have h5 : 0 ≤ r * a := Int.mul_nonneg (by omega) (by omega)
  have h6 : r * a ≤ 120 := Int.mul_le_mul h2 h4 (by omega) (by omega)
  go_enter Tryz.func38, Tryz.ntmps38
  go_wp2
  go_ret
  exact ⟨rfl, (Below.refl _ _).alloc (Nat.le_refl _) _⟩

set_option maxRecDepth 20000 in
theorem c_countValid (n : Int) (w : World) :
    Calls Tryz.prog 37 #[(.int .i64 (n))] w fun e w' => e = .returned (.bool (inB n 0 60)) ∧ w = w' := by
  go_enter Tryz.func37, Tryz.ntmps37
  go_wp2
  all_goals (go_ret; refine ⟨ret_bool ?_, rfl⟩; go_light; unfold inB; simp; try omega)

def pnF (r a c n : Int) : Int := if layB r a c = true ∧ 0 ≤ n ∧ n ≤ 60 then (n + r * a - 1) / (r * a) else -1
theorem lay_mul {r a c : Int} (hv : layB r a c = true) : 1 ≤ r ∧ r ≤ 20 ∧ 1 ≤ a ∧ a ≤ 6 ∧ 1 ≤ c ∧ c ≤ 12 ∧ 1 ≤ r * a ∧ r * a ≤ 120 := by
  have h : 1 ≤ r ∧ r ≤ 20 ∧ 1 ≤ a ∧ a ≤ 6 ∧ 1 ≤ c ∧ c ≤ 12 := by unfold layB at hv; simpa using hv
  obtain ⟨h1, h2, h3, h4, h5, h6⟩ := h
  have h7 : 1 * 1 ≤ r * a := Int.mul_le_mul h1 h3 (by omega) (by omega)
  have h8 : r * a ≤ 20 * 6 := Int.mul_le_mul h2 h4 (by omega) (by omega)
  omega

set_option maxRecDepth 20000 in
theorem c_spec_PagesNeeded (r a c n : Int) (w : World) :
    Calls Tryz.prog 54 #[(.agg #[.int .i64 r, .int .i64 a, .int .i64 c]), (.int .i64 (n))] w fun e w' => e = .returned (.int .i64 ((pnF r a c n))) ∧ Below w.heap.size w w' := by
  by_cases h : layB r a c = true ∧ 0 ≤ n ∧ n ≤ 60
  · have e : pnF r a c n = (n + r * a - 1) / (r * a) := if_pos h
    obtain ⟨hv, hn, hm⟩ := h
    have hi := inB_t hn hm
    obtain ⟨h1, h2, h3, h4, h5, h6, h7, h8⟩ := lay_mul hv
    go_enter Tryz.func54, Tryz.ntmps54
    go_wp2_with (first | (go_at_call 29; refine (c_l1In _ _ _ _).mono ?_; rintro e w' ⟨rfl, rfl⟩) | (go_at_call 28; refine (c_spec_LayoutValid _ _ _ _).mono ?_; rintro e w1 ⟨rfl, hb⟩; obtain ⟨hc, hf⟩ := bcell hb))
    go_ret
    exact ⟨ret_int e.symm, balloc hb⟩
  · have e : pnF r a c n = -1 := if_neg h
    by_cases hv : layB r a c = true
    · have hn : inB n 0 60 = false := inB_f (fun q => h ⟨hv, q⟩)
      clear h
      go_enter Tryz.func54, Tryz.ntmps54
      go_wp2_with (first | (go_at_call 29; refine (c_l1In _ _ _ _).mono ?_; rintro e w' ⟨rfl, rfl⟩) | (go_at_call 28; refine (c_spec_LayoutValid _ _ _ _).mono ?_; rintro e w1 ⟨rfl, hb⟩; obtain ⟨hc, hf⟩ := bcell hb))
      go_ret
      exact ⟨ret_int e.symm, balloc hb⟩
    · have hv' : layB r a c = false := by simpa using hv
      clear h hv
      go_enter Tryz.func54, Tryz.ntmps54
      go_wp2_with (first | (go_at_call 29; refine (c_l1In _ _ _ _).mono ?_; rintro e w' ⟨rfl, rfl⟩) | (go_at_call 28; refine (c_spec_LayoutValid _ _ _ _).mono ?_; rintro e w1 ⟨rfl, hb⟩; obtain ⟨hc, hf⟩ := bcell hb))
      go_ret
      exact ⟨ret_int e.symm, balloc hb⟩

set_option maxRecDepth 20000 in
theorem c_impl_PagesNeeded (r a c n : Int) (w : World) :
    Calls Tryz.prog 11 #[(.agg #[.int .i64 r, .int .i64 a, .int .i64 c]), (.int .i64 (n))] w fun e w' => e = .returned (.int .i64 ((pnF r a c n))) ∧ Below w.heap.size w w' := by
  by_cases h : layB r a c = true ∧ 0 ≤ n ∧ n ≤ 60
  · have e : pnF r a c n = (n + r * a - 1) / (r * a) := if_pos h
    obtain ⟨hv, hn, hm⟩ := h
    have hi := inB_t hn hm
    obtain ⟨h1, h2, h3, h4, h5, h6, h7, h8⟩ := lay_mul hv
    go_enter Tryz.func11, Tryz.ntmps11
    go_wp2_with (first | (go_at_call 38; refine (c_places _ _ _ _ hv).mono ?_; rintro e w2 ⟨rfl, hb2⟩; obtain ⟨hc2, hf2⟩ := bcell hb2) | (go_at_call 37; refine (c_countValid _ _).mono ?_; rintro e w' ⟨rfl, rfl⟩) | (go_at_call 25; refine (c_impl_LayoutValid _ _ _ _).mono ?_; rintro e w1 ⟨rfl, hb⟩; obtain ⟨hc, hf⟩ := bcell hb))
    have hz : w.heap.size < w1.heap.size := by have := hb.size; simp at this; omega
    have hk0 := keep3_0 hb
    have hr0 : (r * a = 0) = False := by simp; omega
    have hw1 : IntKind.i64.wrap (n + r * a) = n + r * a := IntWalk.i64_in _ (by omega)
    have hw2 : IntKind.i64.wrap (n + r * a - 1) = n + r * a - 1 := IntWalk.i64_in _ (by omega)
    have hw3 : IntKind.i64.wrap ((n + r * a - 1).tdiv (r * a)) = (n + r * a - 1) / (r * a) := IntWalk.i64_quo _ _ (by omega)
    go_region_held3 (fun wx => Below w1.heap.size w1 wx ∧ wx.cell? ⟨w.heap.size, 0, none⟩ = some (.int .i64 (r)) ∧ wx.cell? ⟨w.heap.size, 1, none⟩ = some (.int .i64 (a)) ∧ wx.cell? ⟨w.heap.size, 2, none⟩ = some (.int .i64 (c))) (first | assumption | exact hk0 | exact keep3 hz (by assumption) (by assumption))
      (first | (go_at_call 38; refine (c_places _ _ _ _ hv).mono ?_; rintro e w2 ⟨rfl, hb2⟩))
    clear hw1 hw2 hw3 hr0
    rename_i hS
    go_wp2
    go_ret
    exact ⟨ret_int e.symm, bthen (balloc hb) hS.1⟩
  · have e : pnF r a c n = -1 := if_neg h
    by_cases hv : layB r a c = true
    · have hn : inB n 0 60 = false := inB_f (fun q => h ⟨hv, q⟩)
      clear h
      go_enter Tryz.func11, Tryz.ntmps11
      go_wp2_with (first | (go_at_call 37; refine (c_countValid _ _).mono ?_; rintro e w' ⟨rfl, rfl⟩) | (go_at_call 25; refine (c_impl_LayoutValid _ _ _ _).mono ?_; rintro e w1 ⟨rfl, hb⟩; obtain ⟨hc, hf⟩ := bcell hb))
      go_ret
      exact ⟨ret_int e.symm, balloc hb⟩
    · have hv' : layB r a c = false := by simpa using hv
      clear h hv
      go_enter Tryz.func11, Tryz.ntmps11
      go_wp2_with (first | (go_at_call 37; refine (c_countValid _ _).mono ?_; rintro e w' ⟨rfl, rfl⟩) | (go_at_call 25; refine (c_impl_LayoutValid _ _ _ _).mono ?_; rintro e w1 ⟨rfl, hb⟩; obtain ⟨hc, hf⟩ := bcell hb))
      go_ret
      exact ⟨ret_int e.symm, balloc hb⟩

def plB (r a c i : Int) : Bool := layB r a c && decide (0 ≤ i ∧ i < 60)
def plP (r a c i : Int) : Int := if plB r a c i = true then i / (r * a) else 0
def plR (r a c i : Int) : Int := if plB r a c i = true then (i % (r * a)) % r else 0
def plC (r a c i : Int) : Int := if plB r a c i = true then (i % (r * a)) / r else 0

end Go.Proofs.YtdgnhplaakjlgaaGreatDoor
