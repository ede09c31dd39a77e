/- FnExactRoundError: the program's RoundError returns what the reference's returns, for all arguments, and changes no argument. No condition. -/
import Derived.Test.YtjlehpoicplmpaaRErr
namespace Go.Proofs.Ytjlehpoicplmpaa
set_option linter.unusedVariables false
open Go.ChangeShapes Go.WideShapes Go.ChangeAt Go.RowKit

set_option maxHeartbeats 1000000 in
set_option maxRecDepth 100000 in
theorem walk_FnExactRoundError (va : Value) (xs : List Int) {w : World} (hw : RdL w va (xs.map (Value.int .i64)) ∧ xs.length ≤ 9223372036854775807 ∧ ∀ n ∈ xs, (Lit.int .i64 n).wf = true)
    (d : Int) (_ : (Lit.int .i64 d).wf = true) (way : Int) (_ : (Lit.int .i64 way).wf = true) :
    Calls Try.prog 14 #[va, (.int .i64 (d)), (.int .i64 (way))] w fun e w' => e = .returned (.bool true) ∧ Below w.heap.size w w' := by
  obtain ⟨hR, hlen, _⟩ := hw
  replace hR : RdI w va xs := hR
  have hR0 := hR
  obtain ⟨a, cap, rfl, hR1⟩ := hR0
  clear hR1
  simp only [List.length_map] at hR ⊢
  by_cases hbig : 1048576 < xs.length
  · go_enter Try.func14, Try.ntmps14
    go_wp2
    go_ret
    exact ⟨rfl, Below.refl _ _⟩
  · go_enter Try.func14, Try.ntmps14
    go_wp2_with fail
    refine (k_to_ints _ xs _ (hR) (by omega)).mono ?_
    rintro e w1 ⟨t, rfl, o_t, hB⟩
    have hA : Below w.heap.size w w1 := (by first | exact hB | exact balloc hB)
    have hs1 := hB.size
    (try simp at hs1)
    clear hB
    have lt_t := fun k hk => (o_t.lt k hk).2
    go_wp2_with fail
    refine (c_spec_RoundError _ xs d way _ (owns_RdI o_t) (by omega)).mono ?_
    rintro e w2 ⟨rfl, hB⟩
    replace o_t := ownsRow_kept_below o_t hB
    replace hA := bthen hA hB
    have hs2 := hB.size
    clear hB
    clear o_t
    go_wp2_with fail
    refine (k_to_ints _ xs _ (hR.kept hA) (by omega)).mono ?_
    rintro e w3 ⟨x, rfl, o_x, hB⟩
    replace hA := bthen hA hB
    have hs3 := hB.size
    clear hB
    have lt_x := fun k hk => (o_x.lt k hk).2
    go_wp2_with fail
    refine (c_impl_RoundError _ xs d way _ (owns_RdI o_x) (by omega)).mono ?_
    rintro e w4 ⟨rfl, hB⟩
    replace o_x := ownsRow_kept_below o_x hB
    replace hA := bthen hA hB
    have hs4 := hB.size
    clear hB
    go_wp2_with fail
    refine (k_to_ints _ xs _ (hR.kept hA) (by omega)).mono ?_
    rintro e w5 ⟨y, rfl, o_y, hB⟩
    replace o_x := ownsRow_kept_below o_x hB
    replace hA := bthen hA hB
    have hs5 := hB.size
    clear hB
    have lt_y := fun k hk => (o_y.lt k hk).2
    go_wp2_with fail
    refine (k_eq_ints _ _ _ _ xs _ o_x o_y (by omega)).mono ?_
    rintro e w6 ⟨rfl, hB⟩
    replace o_x := ownsRow_kept_below o_x hB
    replace o_y := ownsRow_kept_below o_y hB
    replace hA := bthen hA hB
    have hs6 := hB.size
    clear hB
    go_wp2_with fail
    go_ret
    exact ⟨rfl, hA⟩

set_option maxRecDepth 100000 in
theorem lifted_FnExactRoundError (os : Os) (started : os.Started) (H : Type) (enc : TypeId × Value → H) :
    ReturnsInHanded {} Try.checked os 14 .any (Rows.fnExactRoundErrorSpec.pre6 enc Try.prog Try.f14 Rows.fnExactRoundErrorRow.domain false) (Rows.fnExactRoundErrorSpec.post enc Try.prog Try.f14 false true false false) := by
  refine returnsInHanded_of_change (C := Try.checked) own started (by kernel_rfl) Try.func14
    (ChangeSpec.witness6 (enc := enc) (C := Try.checked) false ⟨#[], #[.slice none 0 0, .int .i64 0, .int .i64 0], []⟩ 8 (by kernel_rfl) (by kernel_rfl) (by kernel_rfl) (by kernel_rfl)) ?_
  intro W base args ds gs before hval0 hW hcnd _
  have hval : ∀ (j : Nat) t v, Try.f14.params[j]? = some t → args[j]? = some v → Value.okWide Try.prog W .any base t v := hval0
  have hW' := hW
  obtain ⟨p, q, hA0, hV, rfl, hfz, hnd⟩ := hW
  have hA : DataW.TrodAll enc Try.prog W 0 (fun _ => true) true Try.f14.params.toList args.toList ds p := hA0
  rw [Try.params14] at hA hval
  obtain ⟨v0, vs0, d0, ds0, p0, q0, hargs, rfl, rfl, h0, r0⟩ := trodAll_cons hA
  obtain ⟨v1, vs1, d1, ds1, p1, q1, rfl, rfl, rfl, h1, r1⟩ := trodAll_cons r0
  obtain ⟨v2, vs2, d2, ds2, p2, q2, rfl, rfl, rfl, h2, r2⟩ := trodAll_cons r1
  obtain ⟨rfl, rfl, rfl⟩ := trodAll_nil r2
  obtain rfl : args = #[v0, v1, v2] := by cases args; simp_all
  obtain ⟨rfl, rfl⟩ := trodVars_none hV
  obtain ⟨l0, w0⟩ := open_ints (hval 0 22 v0 rfl rfl) h0
  obtain ⟨a1, rfl, rfl, rfl, w1⟩ := open_int Try.underlying3 (hval 1 3 v1 rfl rfl) h1
  obtain ⟨a2, rfl, rfl, rfl, w2⟩ := open_int Try.underlying3 (hval 2 3 v2 rfl rfl) h2
  refine (walk_FnExactRoundError v0 l0 w0 a1 w1 a2 w2).mono fun e W' ⟨he, hg⟩ => ?_
  subst he
  exact ⟨_, rfl, law_post laidOut hW' rfl (by kernel_rfl) rfl Try.underlying4 rfl rfl rfl rfl hg⟩
theorem factA_FnExactRoundError : factsA Try.prog 14 Try.f14 Rows.fnExactRoundErrorSpec Rows.fnExactRoundErrorRow = true := by kernel_rfl
theorem fact9_FnExactRoundError : (Rows.fnExactRoundErrorRow.inPlace == Try.prog.inPlace 14) = true := by kernel_rfl
theorem fact10_FnExactRoundError : (Rows.fnExactRoundErrorRow.unfollowed == Try.prog.unfollowed 14) = true := by kernel_rfl
theorem fact11_FnExactRoundError : (Rows.fnExactRoundErrorRow.recurses == Try.prog.recurses 14) = true := by kernel_rfl
theorem fact12_FnExactRoundError : (Rows.fnExactRoundErrorRow.named == Try.prog.varsNamed 14) = true := by kernel_rfl
theorem factB_FnExactRoundError : factsB Try.prog 14 Try.f14 Rows.fnExactRoundErrorSpec Rows.fnExactRoundErrorRow = true := by kernel_rfl
theorem factN_FnExactRoundError : Try.prog.funcNamed Rows.fnExactRoundErrorRow.func = some 14 := by kernel_rfl
theorem proved_FnExactRoundError : Rows.FnExactRoundErrorSaid :=
  OpenClaim.holds_of_wide 14 Try.f14 rfl rfl rfl rfl rfl rfl rfl ⟨rfl, rfl, rfl, rfl, rfl⟩ rfl rfl rfl rfl rfl factN_FnExactRoundError Try.func14 (closed_of factA_FnExactRoundError fact9_FnExactRoundError fact10_FnExactRoundError fact11_FnExactRoundError fact12_FnExactRoundError factB_FnExactRoundError rfl rfl rfl)
    (of_decide_eq_true (by kernel_rfl)) (by unfold Func.isWrapper; first | (rw [if_pos (by decide +kernel)]; kernel_rfl) | (rw [if_neg (by decide +kernel)]; exact ⟨rfl, rfl⟩))
    (fun os started H enc _ => lifted_FnExactRoundError os started H enc)
end Go.Proofs.Ytjlehpoicplmpaa
