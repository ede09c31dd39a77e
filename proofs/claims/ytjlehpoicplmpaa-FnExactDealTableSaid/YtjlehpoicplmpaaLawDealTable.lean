/- FnExactDealTable: the program's DealTable returns what the reference's returns, for all arguments; it changes no argument, and what it returns is new memory each time. No condition. -/
import Derived.Test.YtjlehpoicplmpaaDeal
namespace Go.Proofs.Ytjlehpoicplmpaa
set_option linter.unusedVariables false
open Go.ChangeShapes Go.WideShapes Go.ChangeAt Go.RowKit

theorem deal_len (xs : List Int) : (dealA xs).length ≤ 60 ∧ (dealB xs).length ≤ 60 := by
  unfold dealA dealB
  have h1 := evn_len xs xs.length
  have h2 := odn_len xs xs.length
  split
  · exact ⟨by omega, by omega⟩
  · simp

set_option maxHeartbeats 1000000 in
set_option maxRecDepth 100000 in
theorem walk_FnExactDealTable (v : Value) (xs : List Int) {w : World} (hw : RdL w v (xs.map (Value.int .i64)) ∧ xs.length ≤ 9223372036854775807 ∧ ∀ n ∈ xs, (Lit.int .i64 n).wf = true) :
    Calls Try.prog 3 #[v] w fun e w' => e = .returned (.bool true) ∧ Below w.heap.size w w' := by
  obtain ⟨hR, hlen, _⟩ := hw
  replace hR : RdI w v xs := hR
  have hR0 := hR
  obtain ⟨a, cap, rfl, _⟩ := hR0
  rw [List.length_map] at hR ⊢
  by_cases hbig : 1048576 < xs.length
  · go_enter Try.func3, Try.ntmps3
    go_wp2
    go_ret
    exact ⟨rfl, Below.refl _ _⟩
  · obtain ⟨hlA, hlB⟩ := deal_len xs
    generalize hLA : dealA xs = LA at hlA
    generalize hLB : dealB xs = LB at hlB
    have HA : Hid (dealA xs = LA) := hLA
    have HB : Hid (dealB xs = LB) := hLB
    clear hLA hLB
    go_enter Try.func3, Try.ntmps3
    go_wp2_with fail
    refine (k_to_ints _ xs _ hR (by omega)).mono ?_
    rintro e w1 ⟨t0, rfl, o_t0, hB⟩
    have hA : Below w.heap.size w w1 := (by first | exact hB | exact balloc hB)
    have hs1 := hB.size
    (try simp at hs1)
    clear hB
    have lt_t0 := fun k hk => (o_t0.lt k hk).2
    go_wp2_with fail
    refine (c_spec_DealTable _ xs _ (owns_RdI o_t0) (by omega)).mono ?_
    rintro e w2 ⟨v0, v1, rfl, o_v0, o_v1, hd, hB⟩
    replace o_t0 := ownsRow_kept_below o_t0 hB
    replace hA := bthen hA hB
    have hs2 := hB.size
    clear hB
    rw [HA.out] at o_v0
    have lt_v0 := fun k hk => (o_v0.lt k hk).2
    rw [HB.out] at o_v1
    have lt_v1 := fun k hk => (o_v1.lt k hk).2
    clear o_t0
    go_wp2_with fail
    refine (k_to_ints _ xs _ (hR.kept hA) (by omega)).mono ?_
    rintro e w3 ⟨x, rfl, o_x, hB⟩
    replace o_v0 := ownsRow_kept_below o_v0 hB
    replace o_v1 := ownsRow_kept_below o_v1 hB
    replace hA := bthen hA hB
    have hs3 := hB.size
    clear hB
    have lt_x := fun k hk => (o_x.lt k hk).2
    go_wp2_with fail
    refine (c_impl_DealTable _ xs _ (owns_RdI o_x) (by omega)).mono ?_
    rintro e w4 ⟨g0, g1, rfl, o_g0, o_g1, hd2, hB⟩
    replace o_v0 := ownsRow_kept_below o_v0 hB
    replace o_v1 := ownsRow_kept_below o_v1 hB
    replace o_x := ownsRow_kept_below o_x hB
    replace hA := bthen hA hB
    have hs4 := hB.size
    clear hB
    rw [HA.out] at o_g0
    have lt_g0 := fun k hk => (o_g0.lt k hk).2
    rw [HB.out] at o_g1
    have lt_g1 := fun k hk => (o_g1.lt k hk).2
    go_wp2_with fail
    refine (k_eq_ints _ _ _ _ LA _ o_g0 o_v0 (by omega)).mono ?_
    rintro e w5 ⟨rfl, hB⟩
    replace o_v0 := ownsRow_kept_below o_v0 hB
    replace o_v1 := ownsRow_kept_below o_v1 hB
    replace o_x := ownsRow_kept_below o_x hB
    replace o_g0 := ownsRow_kept_below o_g0 hB
    replace o_g1 := ownsRow_kept_below o_g1 hB
    replace hA := bthen hA hB
    have hs5 := hB.size
    clear hB
    go_wp2_with fail
    refine (k_eq_ints _ _ _ _ LB _ o_g1 o_v1 (by omega)).mono ?_
    rintro e w6 ⟨rfl, hB⟩
    replace o_v0 := ownsRow_kept_below o_v0 hB
    replace o_v1 := ownsRow_kept_below o_v1 hB
    replace o_x := ownsRow_kept_below o_x hB
    replace o_g0 := ownsRow_kept_below o_g0 hB
    replace o_g1 := ownsRow_kept_below o_g1 hB
    replace hA := bthen hA hB
    have hs6 := hB.size
    clear hB
    go_wp2_with fail
    refine (k_to_ints _ xs _ (hR.kept hA) (by omega)).mono ?_
    rintro e w7 ⟨y, rfl, o_y, hB⟩
    replace o_v0 := ownsRow_kept_below o_v0 hB
    replace o_v1 := ownsRow_kept_below o_v1 hB
    replace o_x := ownsRow_kept_below o_x hB
    replace o_g0 := ownsRow_kept_below o_g0 hB
    replace o_g1 := ownsRow_kept_below o_g1 hB
    replace hA := bthen hA hB
    have hs7 := hB.size
    clear hB
    have lt_y := fun k hk => (o_y.lt k hk).2
    go_wp2_with fail
    refine (k_eq_ints _ _ _ _ xs _ o_x o_y (by omega)).mono ?_
    rintro e w8 ⟨rfl, hB⟩
    replace o_v0 := ownsRow_kept_below o_v0 hB
    replace o_v1 := ownsRow_kept_below o_v1 hB
    replace o_x := ownsRow_kept_below o_x hB
    replace o_g0 := ownsRow_kept_below o_g0 hB
    replace o_g1 := ownsRow_kept_below o_g1 hB
    replace o_y := ownsRow_kept_below o_y hB
    replace hA := bthen hA hB
    have hs8 := hB.size
    clear hB
    clear o_y
    go_wp2_with fail
    refine (k_mark_ints _ _ xs _ _ o_x (by omega) (by omega) (by omega) (by omega)).mono ?_
    rintro e w9 ⟨rfl, o_x, hB, hG⟩
    replace o_v0 := ownsRow_kept_old o_v0 hB (fun k hk => by have := lt_v0 k hk; omega)
    replace o_v1 := ownsRow_kept_old o_v1 hB (fun k hk => by have := lt_v1 k hk; omega)
    replace o_g0 := ownsRow_kept_new o_g0 hG (fun k hk => by have := lt_x k hk; omega)
    replace o_g1 := ownsRow_kept_new o_g1 hG (fun k hk => by have := lt_x k hk; omega)
    replace hA := hA.trans (hB.mono (by omega))
    have hs9 := hB.size
    clear hB hG
    clear o_x
    go_wp2_with fail
    refine (k_eq_ints _ _ _ _ LA _ o_g0 o_v0 (by omega)).mono ?_
    rintro e w10 ⟨rfl, hB⟩
    replace o_v0 := ownsRow_kept_below o_v0 hB
    replace o_v1 := ownsRow_kept_below o_v1 hB
    replace o_g0 := ownsRow_kept_below o_g0 hB
    replace o_g1 := ownsRow_kept_below o_g1 hB
    replace hA := bthen hA hB
    have hs10 := hB.size
    clear hB
    go_wp2_with fail
    refine (k_eq_ints _ _ _ _ LB _ o_g1 o_v1 (by omega)).mono ?_
    rintro e w11 ⟨rfl, hB⟩
    replace o_v0 := ownsRow_kept_below o_v0 hB
    replace o_v1 := ownsRow_kept_below o_v1 hB
    replace o_g0 := ownsRow_kept_below o_g0 hB
    replace o_g1 := ownsRow_kept_below o_g1 hB
    replace hA := bthen hA hB
    have hs11 := hB.size
    clear hB
    go_wp2_with fail
    refine (k_mark_ints _ _ LA _ _ o_g0 (by omega) (by omega) (by omega) (by omega)).mono ?_
    rintro e w12 ⟨rfl, o_g0, hB, hG⟩
    replace o_v0 := ownsRow_kept_old o_v0 hB (fun k hk => by have := lt_v0 k hk; omega)
    replace o_v1 := ownsRow_kept_old o_v1 hB (fun k hk => by have := lt_v1 k hk; omega)
    replace o_g1 := o_g1.kept hG hd2
    replace hA := hA.trans (hB.mono (by omega))
    have hs12 := hB.size
    clear hB hG
    go_wp2_with fail
    refine (k_mark_ints _ _ LB _ _ o_g1 (by omega) (by omega) (by omega) (by omega)).mono ?_
    rintro e w13 ⟨rfl, o_g1, hB, hG⟩
    replace o_v0 := ownsRow_kept_old o_v0 hB (fun k hk => by have := lt_v0 k hk; omega)
    replace o_v1 := ownsRow_kept_old o_v1 hB (fun k hk => by have := lt_v1 k hk; omega)
    replace o_g0 := o_g0.kept hG (apart_comm hd2)
    replace hA := hA.trans (hB.mono (by omega))
    have hs13 := hB.size
    clear hB hG
    go_wp2_with fail
    refine (k_held_ints _ _ _ LA.length _ o_g0 (by omega) (by omega) (by omega)).mono ?_
    rintro e w14 ⟨rfl, hB⟩
    replace o_v0 := ownsRow_kept_below o_v0 hB
    replace o_v1 := ownsRow_kept_below o_v1 hB
    replace o_g0 := ownsRow_kept_below o_g0 hB
    replace o_g1 := ownsRow_kept_below o_g1 hB
    replace hA := bthen hA hB
    have hs14 := hB.size
    clear hB
    go_wp2_with fail
    refine (k_held_ints _ _ _ LB.length _ o_g1 (by omega) (by omega) (by omega)).mono ?_
    rintro e w15 ⟨rfl, hB⟩
    replace o_v0 := ownsRow_kept_below o_v0 hB
    replace o_v1 := ownsRow_kept_below o_v1 hB
    replace o_g0 := ownsRow_kept_below o_g0 hB
    replace o_g1 := ownsRow_kept_below o_g1 hB
    replace hA := bthen hA hB
    have hs15 := hB.size
    clear hB
    go_wp2_with fail
    refine (k_to_ints _ xs _ (hR.kept hA) (by omega)).mono ?_
    rintro e w16 ⟨z, rfl, o_z, hB⟩
    replace o_v0 := ownsRow_kept_below o_v0 hB
    replace o_v1 := ownsRow_kept_below o_v1 hB
    replace o_g0 := ownsRow_kept_below o_g0 hB
    replace o_g1 := ownsRow_kept_below o_g1 hB
    replace hA := bthen hA hB
    have hs16 := hB.size
    clear hB
    have lt_z := fun k hk => (o_z.lt k hk).2
    go_wp2_with fail
    refine (c_impl_DealTable _ xs _ (owns_RdI o_z) (by omega)).mono ?_
    rintro e w17 ⟨h0, h1, rfl, o_h0, o_h1, hd3, hB⟩
    replace o_v0 := ownsRow_kept_below o_v0 hB
    replace o_v1 := ownsRow_kept_below o_v1 hB
    replace o_g0 := ownsRow_kept_below o_g0 hB
    replace o_g1 := ownsRow_kept_below o_g1 hB
    replace o_z := ownsRow_kept_below o_z hB
    replace hA := bthen hA hB
    have hs17 := hB.size
    clear hB
    rw [HA.out] at o_h0
    have lt_h0 := fun k hk => (o_h0.lt k hk).2
    rw [HB.out] at o_h1
    have lt_h1 := fun k hk => (o_h1.lt k hk).2
    clear o_z
    go_wp2_with fail
    refine (k_eq_ints _ _ _ _ LA _ o_h0 o_v0 (by omega)).mono ?_
    rintro e w18 ⟨rfl, hB⟩
    replace o_v0 := ownsRow_kept_below o_v0 hB
    replace o_v1 := ownsRow_kept_below o_v1 hB
    replace o_g0 := ownsRow_kept_below o_g0 hB
    replace o_g1 := ownsRow_kept_below o_g1 hB
    replace o_h0 := ownsRow_kept_below o_h0 hB
    replace o_h1 := ownsRow_kept_below o_h1 hB
    replace hA := bthen hA hB
    have hs18 := hB.size
    clear hB
    go_wp2_with fail
    refine (k_eq_ints _ _ _ _ LB _ o_h1 o_v1 (by omega)).mono ?_
    rintro e w19 ⟨rfl, hB⟩
    replace o_v0 := ownsRow_kept_below o_v0 hB
    replace o_v1 := ownsRow_kept_below o_v1 hB
    replace o_g0 := ownsRow_kept_below o_g0 hB
    replace o_g1 := ownsRow_kept_below o_g1 hB
    replace o_h0 := ownsRow_kept_below o_h0 hB
    replace o_h1 := ownsRow_kept_below o_h1 hB
    replace hA := bthen hA hB
    have hs19 := hB.size
    clear hB
    go_wp2_with fail
    refine (k_held_ints _ _ _ LA.length _ o_g0 (by omega) (by omega) (by omega)).mono ?_
    rintro e w20 ⟨rfl, hB⟩
    replace o_v0 := ownsRow_kept_below o_v0 hB
    replace o_v1 := ownsRow_kept_below o_v1 hB
    replace o_g0 := ownsRow_kept_below o_g0 hB
    replace o_g1 := ownsRow_kept_below o_g1 hB
    replace o_h0 := ownsRow_kept_below o_h0 hB
    replace o_h1 := ownsRow_kept_below o_h1 hB
    replace hA := bthen hA hB
    have hs20 := hB.size
    clear hB
    go_wp2_with fail
    refine (k_held_ints _ _ _ LB.length _ o_g1 (by omega) (by omega) (by omega)).mono ?_
    rintro e w21 ⟨rfl, hB⟩
    replace o_v0 := ownsRow_kept_below o_v0 hB
    replace o_v1 := ownsRow_kept_below o_v1 hB
    replace o_g0 := ownsRow_kept_below o_g0 hB
    replace o_g1 := ownsRow_kept_below o_g1 hB
    replace o_h0 := ownsRow_kept_below o_h0 hB
    replace o_h1 := ownsRow_kept_below o_h1 hB
    replace hA := bthen hA hB
    have hs21 := hB.size
    clear hB
    go_wp2_with fail
    go_ret
    exact ⟨rfl, hA⟩

set_option maxRecDepth 100000 in
theorem lifted_FnExactDealTable (os : Os) (started : os.Started) (H : Type) (enc : TypeId × Value → H) :
    ReturnsInHanded {} Try.checked os 3 .any (Rows.fnExactDealTableSpec.pre6 enc Try.prog Try.f3 Rows.fnExactDealTableRow.domain false) (Rows.fnExactDealTableSpec.post enc Try.prog Try.f3 false true false false) := by
  refine returnsInHanded_of_change (C := Try.checked) own started (by kernel_rfl) Try.func3
    (ChangeSpec.witness6 (enc := enc) (C := Try.checked) false ⟨#[], #[.slice none 0 0], []⟩ 8 (by kernel_rfl) (by kernel_rfl) (by kernel_rfl) (by kernel_rfl)) ?_
  intro W base args ds gs before hval0 hW hcnd _
  have hval : ∀ (j : Nat) t v, Try.f3.params[j]? = some t → args[j]? = some v → Value.okWide Try.prog W .any base t v := hval0
  have hW' := hW
  obtain ⟨p, q, hA0, hV, rfl, hfz, hnd⟩ := hW
  have hA : DataW.TrodAll enc Try.prog W 0 (fun _ => true) true Try.f3.params.toList args.toList ds p := hA0
  rw [Try.params3] at hA hval
  obtain ⟨v0, vs0, d0, ds0, p0, q0, hargs, rfl, rfl, h0, r0⟩ := trodAll_cons hA
  obtain ⟨rfl, rfl, rfl⟩ := trodAll_nil r0
  obtain rfl : args = #[v0] := by cases args; simp_all
  obtain ⟨rfl, rfl⟩ := trodVars_none hV
  obtain ⟨l0, w0⟩ := open_ints (hval 0 22 v0 rfl rfl) h0
  refine (walk_FnExactDealTable v0 l0 w0).mono fun e W' ⟨he, hg⟩ => ?_
  subst he
  exact ⟨_, rfl, law_post laidOut hW' rfl (by kernel_rfl) rfl Try.underlying4 rfl rfl rfl rfl hg⟩
theorem factA_FnExactDealTable : factsA Try.prog 3 Try.f3 Rows.fnExactDealTableSpec Rows.fnExactDealTableRow = true := by kernel_rfl
theorem fact9_FnExactDealTable : (Rows.fnExactDealTableRow.inPlace == Try.prog.inPlace 3) = true := by kernel_rfl
theorem fact10_FnExactDealTable : (Rows.fnExactDealTableRow.unfollowed == Try.prog.unfollowed 3) = true := by kernel_rfl
theorem fact11_FnExactDealTable : (Rows.fnExactDealTableRow.recurses == Try.prog.recurses 3) = true := by kernel_rfl
theorem fact12_FnExactDealTable : (Rows.fnExactDealTableRow.named == Try.prog.varsNamed 3) = true := by kernel_rfl
theorem factB_FnExactDealTable : factsB Try.prog 3 Try.f3 Rows.fnExactDealTableSpec Rows.fnExactDealTableRow = true := by kernel_rfl
theorem factN_FnExactDealTable : Try.prog.funcNamed Rows.fnExactDealTableRow.func = some 3 := by kernel_rfl
theorem proved_FnExactDealTable : Rows.FnExactDealTableSaid :=
  OpenClaim.holds_of_wide 3 Try.f3 rfl rfl rfl rfl rfl rfl rfl ⟨rfl, rfl, rfl, rfl, rfl⟩ rfl rfl rfl rfl rfl factN_FnExactDealTable Try.func3 (closed_of factA_FnExactDealTable fact9_FnExactDealTable fact10_FnExactDealTable fact11_FnExactDealTable fact12_FnExactDealTable factB_FnExactDealTable rfl rfl rfl)
    (of_decide_eq_true (by kernel_rfl)) (by unfold Func.isWrapper; first | (rw [if_pos (by decide +kernel)]; kernel_rfl) | (rw [if_neg (by decide +kernel)]; exact ⟨rfl, rfl⟩))
    (fun os started H enc _ => lifted_FnExactDealTable os started H enc)
end Go.Proofs.Ytjlehpoicplmpaa
