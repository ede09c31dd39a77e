/- FnExactQuarterSquare: the program's QuarterSquare returns what the reference's returns, for all arguments. No condition. -/
import Derived.Test.YtjgmagfmdfgkiaaFrame
import Derived.Test.YtjgmagfmdfgkiaaLay
namespace Go.Proofs.Ytjgmagfmdfgkiaa
set_option linter.unusedVariables false
open Go.ChangeShapes Go.WideShapes Go.ChangeAt Go.RowKit

def qs (n : Int) : Int := if n < 0 ∨ 59 < n then -1 else n * n / 4
theorem qs_bd {n : Int} (h : 0 ≤ n) (h' : n ≤ 59) : 0 ≤ n * n ∧ n * n ≤ 3481 := by
  have := Int.mul_le_mul h' h' h (by omega)
  exact ⟨Int.mul_nonneg h h, by simpa using this⟩

theorem c_impl_QuarterSquare (n : Int) (w : World) :
    Calls Try.prog 10 #[(.int .i64 (n))] w fun e w' => e = .returned (.int .i64 (qs n)) ∧ w = w' := by
  have hd : n < 0 ∨ 59 < n ∨ (0 ≤ n ∧ n ≤ 59) := by omega
  rcases hd with h0 | h0 | ⟨h0, h1⟩
  · have hq : qs n = -1 := if_pos (by omega)
    go_enter Try.func10, Try.ntmps10
    go_wp2
    go_ret
    exact ⟨by rw [hq]; rfl, rfl⟩
  · have hq : qs n = -1 := if_pos (by omega)
    go_enter Try.func10, Try.ntmps10
    go_wp2
    go_ret
    exact ⟨by rw [hq]; rfl, rfl⟩
  · have hq : qs n = n * n / 4 := if_neg (by omega)
    obtain ⟨h2, h3⟩ := qs_bd h0 h1
    go_enter Try.func10, Try.ntmps10
    go_wp2
    go_ret
    exact ⟨by rw [hq]; rfl, rfl⟩

theorem c_spec_QuarterSquare (n : Int) (w : World) :
    Calls Try.prog 9 #[(.int .i64 (n))] w fun e w' => e = .returned (.int .i64 (qs n)) ∧ w = w' := by
  by_cases h : 0 ≤ n ∧ n ≤ 59
  · have hq : qs n = n * n / 4 := if_neg (by omega)
    have hi : inB n 0 59 = true := inB_t h.1 h.2
    obtain ⟨h2, h3⟩ := qs_bd h.1 h.2
    go_enter Try.func9, Try.ntmps9
    go_wp2_with (go_at_call 25; refine (c_l1In _ _ _ _).mono ?_; rintro e w' ⟨rfl, rfl⟩)
    go_ret
    exact ⟨by rw [hq]; rfl, rfl⟩
  · have hq : qs n = -1 := if_pos (by omega)
    have hi : inB n 0 59 = false := inB_f h
    clear h
    go_enter Try.func9, Try.ntmps9
    go_wp2_with (go_at_call 25; refine (c_l1In _ _ _ _).mono ?_; rintro e w' ⟨rfl, rfl⟩)
    go_ret
    exact ⟨by rw [hq]; rfl, rfl⟩

theorem walk_FnExactQuarterSquare (n : Int) (_ : (Lit.int .i64 n).wf = true) (w : World) :
    Calls Try.prog 3 #[(.int .i64 (n))] w fun e w' => e = .returned (.bool true) ∧ Below w.heap.size w w' := by
  go_enter Try.func3, Try.ntmps3
  go_wp2_with (first | (go_at_call 9; refine (c_spec_QuarterSquare _ _).mono ?_; rintro e w' ⟨rfl, rfl⟩) | (go_at_call 10; refine (c_impl_QuarterSquare _ _).mono ?_; rintro e w' ⟨rfl, rfl⟩))
  go_ret
  exact ⟨rfl, Below.refl _ _⟩

set_option maxRecDepth 100000 in
theorem lifted_FnExactQuarterSquare (os : Os) (started : os.Started) (H : Type) (enc : TypeId × Value → H) :
    ReturnsInHanded {} Try.checked os 3 .any (Rows.fnExactQuarterSquareSpec.pre6 enc Try.prog Try.f3 Rows.fnExactQuarterSquareRow.domain false) (Rows.fnExactQuarterSquareSpec.post enc Try.prog Try.f3 false true false false) := by
  refine returnsInHanded_of_change (C := Try.checked) own started (by kernel_rfl) Try.func3
    (ChangeSpec.witness6 (enc := enc) (C := Try.checked) false ⟨#[], #[.int .i64 0], []⟩ 8 (by kernel_rfl) (by kernel_rfl) (by kernel_rfl) (by kernel_rfl)) ?_
  intro W base args ds gs before hval0 hW hcnd _
  have hval : ∀ (j : Nat) t v, Try.f3.params[j]? = some t → args[j]? = some v → Value.okWide Try.prog W .any base t v := hval0
  have hW' := hW
  obtain ⟨p, q, hA0, hV, rfl, hfz, hnd⟩ := hW
  have hA : DataW.TrodAll enc Try.prog W 0 (fun _ => true) true Try.f3.params.toList args.toList ds p := hA0
  rw [Try.params3] at hA hval
  obtain ⟨v0, vs0, d0, ds0, p0, q0, hargs, rfl, rfl, h0, r0⟩ := trodAll_cons hA
  obtain ⟨rfl, rfl, rfl⟩ := trodAll_nil r0
  obtain rfl : args = #[v0] := by cases args; simp_all
  obtain ⟨rfl, rfl⟩ := trodVars_none hV
  obtain ⟨a0, rfl, rfl, rfl, w0⟩ := open_int Try.underlying3 (hval 0 3 v0 rfl rfl) h0
  refine (walk_FnExactQuarterSquare a0 w0 W).mono fun e W' ⟨he, hg⟩ => ?_
  subst he
  exact ⟨_, rfl, law_post laidOut hW' rfl (by kernel_rfl) rfl Try.underlying4 rfl rfl rfl rfl hg⟩
theorem proved_FnExactQuarterSquare : Rows.FnExactQuarterSquareSaid :=
  OpenClaim.holds_of_wide 3 Try.f3 rfl rfl rfl rfl rfl rfl rfl ⟨rfl, rfl, rfl, rfl, rfl⟩ rfl rfl rfl rfl rfl (by kernel_rfl) Try.func3 (by kernel_rfl)
    (of_decide_eq_true (by kernel_rfl)) (by unfold Func.isWrapper; first | (rw [if_pos (by decide +kernel)]; kernel_rfl) | (rw [if_neg (by decide +kernel)]; exact ⟨rfl, rfl⟩))
    (fun os started H enc _ => lifted_FnExactQuarterSquare os started H enc)
end Go.Proofs.Ytjgmagfmdfgkiaa
