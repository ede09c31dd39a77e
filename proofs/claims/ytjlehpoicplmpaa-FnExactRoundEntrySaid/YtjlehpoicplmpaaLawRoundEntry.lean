/- FnExactRoundEntry: the program's RoundEntry returns what the reference's returns, for all arguments. No condition. -/
import Derived.Test.YtjlehpoicplmpaaRound
namespace Go.Proofs.Ytjlehpoicplmpaa
set_option linter.unusedVariables false
open Go.ChangeShapes Go.WideShapes Go.ChangeAt Go.RowKit

theorem walk_FnExactRoundEntry (n : Int) (_ : (Lit.int .i64 n).wf = true) (d : Int) (_ : (Lit.int .i64 d).wf = true) (way : Int) (_ : (Lit.int .i64 way).wf = true) (w : World) :
    Calls Try.prog 6 #[(.int .i64 (n)), (.int .i64 (d)), (.int .i64 (way))] w fun e w' => e = .returned (.bool true) ∧ Below w.heap.size w w' := by
  go_enter Try.func6, Try.ntmps6
  go_wp2_with (first | (go_at_call 32; refine (c_spec_RoundEntry _ _ _ _).mono ?_; rintro e w' ⟨rfl, rfl⟩) | (go_at_call 33; refine (c_impl_RoundEntry _ _ _ _).mono ?_; rintro e w' ⟨rfl, rfl⟩))
  go_ret
  exact ⟨rfl, Below.refl _ _⟩

set_option maxRecDepth 100000 in
theorem lifted_FnExactRoundEntry (os : Os) (started : os.Started) (H : Type) (enc : TypeId × Value → H) :
    ReturnsInHanded {} Try.checked os 6 .any (Rows.fnExactRoundEntrySpec.pre6 enc Try.prog Try.f6 Rows.fnExactRoundEntryRow.domain false) (Rows.fnExactRoundEntrySpec.post enc Try.prog Try.f6 false true false false) := by
  refine returnsInHanded_of_change (C := Try.checked) own started (by kernel_rfl) Try.func6
    (ChangeSpec.witness6 (enc := enc) (C := Try.checked) false ⟨#[], #[.int .i64 0, .int .i64 0, .int .i64 0], []⟩ 8 (by kernel_rfl) (by kernel_rfl) (by kernel_rfl) (by kernel_rfl)) ?_
  intro W base args ds gs before hval0 hW hcnd _
  have hval : ∀ (j : Nat) t v, Try.f6.params[j]? = some t → args[j]? = some v → Value.okWide Try.prog W .any base t v := hval0
  have hW' := hW
  obtain ⟨p, q, hA0, hV, rfl, hfz, hnd⟩ := hW
  have hA : DataW.TrodAll enc Try.prog W 0 (fun _ => true) true Try.f6.params.toList args.toList ds p := hA0
  rw [Try.params6] at hA hval
  obtain ⟨v0, vs0, d0, ds0, p0, q0, hargs, rfl, rfl, h0, r0⟩ := trodAll_cons hA
  obtain ⟨v1, vs1, d1, ds1, p1, q1, rfl, rfl, rfl, h1, r1⟩ := trodAll_cons r0
  obtain ⟨v2, vs2, d2, ds2, p2, q2, rfl, rfl, rfl, h2, r2⟩ := trodAll_cons r1
  obtain ⟨rfl, rfl, rfl⟩ := trodAll_nil r2
  obtain rfl : args = #[v0, v1, v2] := by cases args; simp_all
  obtain ⟨rfl, rfl⟩ := trodVars_none hV
  obtain ⟨a0, rfl, rfl, rfl, w0⟩ := open_int Try.underlying3 (hval 0 3 v0 rfl rfl) h0
  obtain ⟨a1, rfl, rfl, rfl, w1⟩ := open_int Try.underlying3 (hval 1 3 v1 rfl rfl) h1
  obtain ⟨a2, rfl, rfl, rfl, w2⟩ := open_int Try.underlying3 (hval 2 3 v2 rfl rfl) h2
  refine (walk_FnExactRoundEntry a0 w0 a1 w1 a2 w2 W).mono fun e W' ⟨he, hg⟩ => ?_
  subst he
  exact ⟨_, rfl, law_post laidOut hW' rfl (by kernel_rfl) rfl Try.underlying4 rfl rfl rfl rfl hg⟩
theorem factA_FnExactRoundEntry : factsA Try.prog 6 Try.f6 Rows.fnExactRoundEntrySpec Rows.fnExactRoundEntryRow = true := by kernel_rfl
theorem fact9_FnExactRoundEntry : (Rows.fnExactRoundEntryRow.inPlace == Try.prog.inPlace 6) = true := by kernel_rfl
theorem fact10_FnExactRoundEntry : (Rows.fnExactRoundEntryRow.unfollowed == Try.prog.unfollowed 6) = true := by kernel_rfl
theorem fact11_FnExactRoundEntry : (Rows.fnExactRoundEntryRow.recurses == Try.prog.recurses 6) = true := by kernel_rfl
theorem fact12_FnExactRoundEntry : (Rows.fnExactRoundEntryRow.named == Try.prog.varsNamed 6) = true := by kernel_rfl
theorem factB_FnExactRoundEntry : factsB Try.prog 6 Try.f6 Rows.fnExactRoundEntrySpec Rows.fnExactRoundEntryRow = true := by kernel_rfl
theorem factN_FnExactRoundEntry : Try.prog.funcNamed Rows.fnExactRoundEntryRow.func = some 6 := by kernel_rfl
theorem proved_FnExactRoundEntry : Rows.FnExactRoundEntrySaid :=
  OpenClaim.holds_of_wide 6 Try.f6 rfl rfl rfl rfl rfl rfl rfl ⟨rfl, rfl, rfl, rfl, rfl⟩ rfl rfl rfl rfl rfl factN_FnExactRoundEntry Try.func6 (closed_of factA_FnExactRoundEntry fact9_FnExactRoundEntry fact10_FnExactRoundEntry fact11_FnExactRoundEntry fact12_FnExactRoundEntry factB_FnExactRoundEntry rfl rfl rfl)
    (of_decide_eq_true (by kernel_rfl)) (by unfold Func.isWrapper; first | (rw [if_pos (by decide +kernel)]; kernel_rfl) | (rw [if_neg (by decide +kernel)]; exact ⟨rfl, rfl⟩))
    (fun os started H enc _ => lifted_FnExactRoundEntry os started H enc)
end Go.Proofs.Ytjlehpoicplmpaa
