/- FnExactLinesValid: the program's LinesValid returns what the reference's returns, for all arguments, and changes no argument. No condition. -/
import Derived.Test.YtihgbebdadpjaaaMstr
import Derived.Test.YtihgbebdadpjaaaLines2
namespace Go.Proofs.Ytihgbebdadpjaaa
set_option linter.unusedVariables false
open Go.ChangeShapes Go.WideShapes Go.ChangeAt Go.RowKit

set_option maxHeartbeats 1000000 in
set_option maxRecDepth 100000 in
theorem walk_FnExactLinesValid (va : Value) (xs : List ByteArray) {w : World} (hw : RdL w va (xs.map Value.string) ∧ xs.length ≤ 9223372036854775807 ∧ ∀ s ∈ xs, s.size ≤ 9223372036854775807) :
    Calls Try.prog 3 #[va] w fun e w' => e = .returned (.bool true) ∧ Below w.heap.size w w' := by
  obtain ⟨hR, hlen, hsz⟩ := hw
  replace hR : RdS w va xs := hR
  have hR0 := hR
  obtain ⟨ba, cap, rfl, hR1⟩ := hR0
  clear hR1
  simp only [List.length_map] at hR ⊢
  by_cases hbig : xs.length + tot xs ≤ 1048576
  · have hl : xs.length ≤ 1048576 := by omega
    obtain ⟨r, hr, hr0⟩ : ∃ r, szR xs 1048576 = r ∧ 0 ≤ r := ⟨_, rfl, by unfold szR; rw [if_pos (by omega)]; omega⟩
    go_enter Try.func3, Try.ntmps3
    go_wp2_with fail
    refine (c_szStringS _ xs _ w hR (by omega) hsz (by omega) (by omega)).mono ?_
    rintro e w1 ⟨he, hB⟩
    have hA : Below w.heap.size w w1 := (by first | exact hB | exact balloc hB)
    have hs1 := hB.size
    (try simp at hs1)
    clear hB
    rw [hr] at he; subst he
    go_wp2_with fail
    refine (k_to_strs _ xs _ (hR.kept hA) (by omega)).mono ?_
    rintro e w2 ⟨ta, rfl, o_ta, hB⟩
    replace hA := bthen hA hB
    have hs2 := hB.size
    clear hB
    have lt_ta := fun k hk => (o_ta.lt k hk).2
    go_wp2_with fail
    refine (c_spec_LinesValid _ xs _ (owns_RdS o_ta) (by omega) hsz).mono ?_
    rintro e w3 ⟨rfl, hB⟩
    replace o_ta := ownsRow_kept_below o_ta hB
    replace hA := bthen hA hB
    have hs3 := hB.size
    clear hB
    clear o_ta
    go_wp2_with fail
    refine (k_to_strs _ xs _ (hR.kept hA) (by omega)).mono ?_
    rintro e w4 ⟨xa, rfl, o_xa, hB⟩
    replace hA := bthen hA hB
    have hs4 := hB.size
    clear hB
    have lt_xa := fun k hk => (o_xa.lt k hk).2
    go_wp2_with fail
    refine (c_impl_LinesValid _ xs _ (owns_RdS o_xa) (by omega) hsz).mono ?_
    rintro e w5 ⟨rfl, hB⟩
    replace o_xa := ownsRow_kept_below o_xa hB
    replace hA := bthen hA hB
    have hs5 := hB.size
    clear hB
    go_wp2_with fail
    refine (k_to_strs _ xs _ (hR.kept hA) (by omega)).mono ?_
    rintro e w6 ⟨ya, rfl, o_ya, hB⟩
    replace o_xa := ownsRow_kept_below o_xa hB
    replace hA := bthen hA hB
    have hs6 := hB.size
    clear hB
    have lt_ya := fun k hk => (o_ya.lt k hk).2
    go_wp2_with fail
    refine (k_eq_strs _ _ _ _ xs _ o_xa o_ya (by omega)).mono ?_
    rintro e w7 ⟨rfl, hB⟩
    replace o_xa := ownsRow_kept_below o_xa hB
    replace o_ya := ownsRow_kept_below o_ya hB
    replace hA := bthen hA hB
    have hs7 := hB.size
    clear hB
    clear o_ya
    go_wp2_with fail
    go_ret
    exact ⟨rfl, hA⟩
  · have hr : szR xs 1048576 = -1 := by unfold szR; rw [if_neg (by omega)]
    go_enter Try.func3, Try.ntmps3
    go_wp2_with fail
    refine (c_szStringS _ xs _ w hR (by omega) hsz (by omega) (by omega)).mono ?_
    rintro e w1 ⟨he, hB⟩
    rw [hr] at he; subst he
    go_wp2
    go_ret
    exact ⟨rfl, hB⟩

set_option maxRecDepth 100000 in
theorem lifted_FnExactLinesValid (os : Os) (started : os.Started) (H : Type) (enc : TypeId × Value → H) :
    ReturnsInHanded {} Try.checked os 3 .any (Rows.fnExactLinesValidSpec.pre6 enc Try.prog Try.f3 Rows.fnExactLinesValidRow.domain false) (Rows.fnExactLinesValidSpec.post enc Try.prog Try.f3 false true false false) := by
  refine returnsInHanded_of_change (C := Try.checked) own started (by kernel_rfl) Try.func3
    (ChangeSpec.witness6 (enc := enc) (C := Try.checked) false ⟨#[], #[.slice none 0 0], []⟩ 8 (by kernel_rfl) (by kernel_rfl) (by kernel_rfl) (by kernel_rfl)) ?_
  intro W base args ds gs before hval0 hW hcnd _
  have hval : ∀ (j : Nat) t v, Try.f3.params[j]? = some t → args[j]? = some v → Value.okWide Try.prog W .any base t v := hval0
  have hW' := hW
  obtain ⟨p, q, hA0, hV, rfl, hfz, hnd⟩ := hW
  have hA : DataW.TrodAll enc Try.prog W 0 (fun _ => true) true Try.f3.params.toList args.toList ds p := hA0
  rw [Try.params3] at hA hval
  obtain ⟨v0, vs0, d0, ds0, p0, q0, hargs, rfl, rfl, h0, r0⟩ := trodAll_cons hA
  obtain ⟨rfl, rfl, rfl⟩ := trodAll_nil r0
  obtain rfl : args = #[v0] := by cases args; simp_all
  obtain ⟨rfl, rfl⟩ := trodVars_none hV
  obtain ⟨l0, w0⟩ := open_strs (hval 0 22 v0 rfl rfl) h0
  refine (walk_FnExactLinesValid v0 l0 w0).mono fun e W' ⟨he, hg⟩ => ?_
  subst he
  exact ⟨_, rfl, law_post laidOut hW' rfl (by kernel_rfl) rfl Try.underlying4 rfl rfl rfl rfl hg⟩
theorem factA_FnExactLinesValid : factsA Try.prog 3 Try.f3 Rows.fnExactLinesValidSpec Rows.fnExactLinesValidRow = true := by kernel_rfl
theorem fact9_FnExactLinesValid : (Rows.fnExactLinesValidRow.inPlace == Try.prog.inPlace 3) = true := by kernel_rfl
theorem fact10_FnExactLinesValid : (Rows.fnExactLinesValidRow.unfollowed == Try.prog.unfollowed 3) = true := by kernel_rfl
theorem fact11_FnExactLinesValid : (Rows.fnExactLinesValidRow.recurses == Try.prog.recurses 3) = true := by kernel_rfl
theorem fact12_FnExactLinesValid : (Rows.fnExactLinesValidRow.named == Try.prog.varsNamed 3) = true := by kernel_rfl
theorem factB_FnExactLinesValid : factsB Try.prog 3 Try.f3 Rows.fnExactLinesValidSpec Rows.fnExactLinesValidRow = true := by kernel_rfl
theorem factN_FnExactLinesValid : Try.prog.funcNamed Rows.fnExactLinesValidRow.func = some 3 := by kernel_rfl
theorem proved_FnExactLinesValid : Rows.FnExactLinesValidSaid :=
  OpenClaim.holds_of_wide 3 Try.f3 rfl rfl rfl rfl rfl rfl rfl ⟨rfl, rfl, rfl, rfl, rfl⟩ rfl rfl rfl rfl rfl factN_FnExactLinesValid Try.func3 (closed_of factA_FnExactLinesValid fact9_FnExactLinesValid fact10_FnExactLinesValid fact11_FnExactLinesValid fact12_FnExactLinesValid factB_FnExactLinesValid rfl rfl rfl)
    (of_decide_eq_true (by kernel_rfl)) (by unfold Func.isWrapper; first | (rw [if_pos (by decide +kernel)]; kernel_rfl) | (rw [if_neg (by decide +kernel)]; exact ⟨rfl, rfl⟩))
    (fun os started H enc _ => lifted_FnExactLinesValid os started H enc)
end Go.Proofs.Ytihgbebdadpjaaa
