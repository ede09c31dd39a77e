/- FnExactRoundTable: the program's RoundTable returns what the reference's returns, for all arguments; it changes no argument, and what it returns is new memory each time. No condition. -/
import Derived.Test.YtjlehpoicplmpaaRTab
namespace Go.Proofs.Ytjlehpoicplmpaa
set_option linter.unusedVariables false
open Go.ChangeShapes Go.WideShapes Go.ChangeAt Go.RowKit

set_option maxHeartbeats 1000000 in
set_option maxRecDepth 100000 in
theorem walk_FnExactRoundTable (va : Value) (xs : List Int) {w : World} (hw : RdL w va (xs.map (Value.int .i64)) ∧ xs.length ≤ 9223372036854775807 ∧ ∀ n ∈ xs, (Lit.int .i64 n).wf = true)
    (d : Int) (_ : (Lit.int .i64 d).wf = true) (way : Int) (_ : (Lit.int .i64 way).wf = true) :
    Calls Try.prog 13 #[va, (.int .i64 (d)), (.int .i64 (way))] w fun e w' => e = .returned (.bool true) ∧ Below w.heap.size w w' := by
  obtain ⟨hR, hlen, _⟩ := hw
  replace hR : RdI w va xs := hR
  have hR0 := hR
  obtain ⟨a, cap, rfl, hR1⟩ := hR0
  clear hR1
  simp only [List.length_map] at hR ⊢
  by_cases hbig : 1048576 < xs.length
  · go_enter Try.func13, Try.ntmps13
    go_wp2
    go_ret
    exact ⟨rfl, Below.refl _ _⟩
  · have hl := rtL_len xs d way
    generalize hL : rtL xs d way = L at hl
    have HL : Hid (rtL xs d way = L) := hL
    clear hL
    go_enter Try.func13, Try.ntmps13
    go_wp2_with fail
    refine (k_to_ints _ xs _ (hR) (by omega)).mono ?_
    rintro e w1 ⟨ta, rfl, o_ta, hB⟩
    have hA : Below w.heap.size w w1 := (by first | exact hB | exact balloc hB)
    have hs1 := hB.size
    (try simp at hs1)
    clear hB
    have lt_ta := fun k hk => (o_ta.lt k hk).2
    go_wp2_with fail
    refine (c_spec_RoundTable _ xs d way _ (owns_RdI o_ta) (by omega)).mono ?_
    rintro e w2 ⟨w, rfl, o_w, hB⟩
    replace o_ta := ownsRow_kept_below o_ta hB
    replace hA := bthen hA hB
    have hs2 := hB.size
    clear hB
    rw [HL.out] at o_w
    have lt_w := fun k hk => (o_w.lt k hk).2
    clear o_ta
    go_wp2_with fail
    refine (k_to_ints _ xs _ (hR.kept hA) (by omega)).mono ?_
    rintro e w3 ⟨xa, rfl, o_xa, hB⟩
    replace o_w := ownsRow_kept_below o_w hB
    replace hA := bthen hA hB
    have hs3 := hB.size
    clear hB
    have lt_xa := fun k hk => (o_xa.lt k hk).2
    go_wp2_with fail
    refine (c_impl_RoundTable _ xs d way _ (owns_RdI o_xa) (by omega)).mono ?_
    rintro e w4 ⟨g, rfl, o_g, hB⟩
    replace o_w := ownsRow_kept_below o_w hB
    replace o_xa := ownsRow_kept_below o_xa hB
    replace hA := bthen hA hB
    have hs4 := hB.size
    clear hB
    rw [HL.out] at o_g
    have lt_g := fun k hk => (o_g.lt k hk).2
    go_wp2_with fail
    refine (k_eq_ints _ _ _ _ L _ o_g o_w (by omega)).mono ?_
    rintro e w5 ⟨rfl, hB⟩
    replace o_w := ownsRow_kept_below o_w hB
    replace o_xa := ownsRow_kept_below o_xa hB
    replace o_g := ownsRow_kept_below o_g hB
    replace hA := bthen hA hB
    have hs5 := hB.size
    clear hB
    go_wp2_with fail
    refine (k_to_ints _ xs _ (hR.kept hA) (by omega)).mono ?_
    rintro e w6 ⟨ya, rfl, o_ya, hB⟩
    replace o_w := ownsRow_kept_below o_w hB
    replace o_xa := ownsRow_kept_below o_xa hB
    replace o_g := ownsRow_kept_below o_g hB
    replace hA := bthen hA hB
    have hs6 := hB.size
    clear hB
    have lt_ya := fun k hk => (o_ya.lt k hk).2
    go_wp2_with fail
    refine (k_eq_ints _ _ _ _ xs _ o_xa o_ya (by omega)).mono ?_
    rintro e w7 ⟨rfl, hB⟩
    replace o_w := ownsRow_kept_below o_w hB
    replace o_xa := ownsRow_kept_below o_xa hB
    replace o_g := ownsRow_kept_below o_g hB
    replace o_ya := ownsRow_kept_below o_ya hB
    replace hA := bthen hA hB
    have hs7 := hB.size
    clear hB
    clear o_ya
    go_wp2_with fail
    refine (k_mark_ints _ _ xs _ _ o_xa (by omega) (by omega) (by omega) (by omega)).mono ?_
    rintro e w8 ⟨rfl, o_xa, hB, hG⟩
    replace o_w := ownsRow_kept_old o_w hB (fun k hk => by have := lt_w k hk; omega)
    replace o_g := ownsRow_kept_new o_g hG (fun k hk => by have := lt_xa k hk; omega)
    replace hA := hA.trans (hB.mono (by omega))
    have hs8 := hB.size
    clear hB hG
    clear o_xa
    go_wp2_with fail
    refine (k_eq_ints _ _ _ _ L _ o_g o_w (by omega)).mono ?_
    rintro e w9 ⟨rfl, hB⟩
    replace o_w := ownsRow_kept_below o_w hB
    replace o_g := ownsRow_kept_below o_g hB
    replace hA := bthen hA hB
    have hs9 := hB.size
    clear hB
    go_wp2_with fail
    refine (k_mark_ints _ _ L _ _ o_g (by omega) (by omega) (by omega) (by omega)).mono ?_
    rintro e w10 ⟨rfl, o_g, hB, hG⟩
    replace o_w := ownsRow_kept_old o_w hB (fun k hk => by have := lt_w k hk; omega)
    replace hA := hA.trans (hB.mono (by omega))
    have hs10 := hB.size
    clear hB hG
    go_wp2_with fail
    refine (k_held_ints _ _ _ L.length _ o_g (by omega) (by omega) (by omega)).mono ?_
    rintro e w11 ⟨rfl, hB⟩
    replace o_w := ownsRow_kept_below o_w hB
    replace o_g := ownsRow_kept_below o_g hB
    replace hA := bthen hA hB
    have hs11 := hB.size
    clear hB
    go_wp2_with fail
    refine (k_to_ints _ xs _ (hR.kept hA) (by omega)).mono ?_
    rintro e w12 ⟨za, rfl, o_za, hB⟩
    replace o_w := ownsRow_kept_below o_w hB
    replace o_g := ownsRow_kept_below o_g hB
    replace hA := bthen hA hB
    have hs12 := hB.size
    clear hB
    have lt_za := fun k hk => (o_za.lt k hk).2
    go_wp2_with fail
    refine (c_impl_RoundTable _ xs d way _ (owns_RdI o_za) (by omega)).mono ?_
    rintro e w13 ⟨h, rfl, o_h, hB⟩
    replace o_w := ownsRow_kept_below o_w hB
    replace o_g := ownsRow_kept_below o_g hB
    replace o_za := ownsRow_kept_below o_za hB
    replace hA := bthen hA hB
    have hs13 := hB.size
    clear hB
    rw [HL.out] at o_h
    have lt_h := fun k hk => (o_h.lt k hk).2
    clear o_za
    go_wp2_with fail
    refine (k_eq_ints _ _ _ _ L _ o_h o_w (by omega)).mono ?_
    rintro e w14 ⟨rfl, hB⟩
    replace o_w := ownsRow_kept_below o_w hB
    replace o_g := ownsRow_kept_below o_g hB
    replace o_h := ownsRow_kept_below o_h hB
    replace hA := bthen hA hB
    have hs14 := hB.size
    clear hB
    go_wp2_with fail
    refine (k_held_ints _ _ _ L.length _ o_g (by omega) (by omega) (by omega)).mono ?_
    rintro e w15 ⟨rfl, hB⟩
    replace o_w := ownsRow_kept_below o_w hB
    replace o_g := ownsRow_kept_below o_g hB
    replace o_h := ownsRow_kept_below o_h hB
    replace hA := bthen hA hB
    have hs15 := hB.size
    clear hB
    go_wp2_with fail
    go_ret
    exact ⟨rfl, hA⟩

set_option maxRecDepth 100000 in
theorem lifted_FnExactRoundTable (os : Os) (started : os.Started) (H : Type) (enc : TypeId × Value → H) :
    ReturnsInHanded {} Try.checked os 13 .any (Rows.fnExactRoundTableSpec.pre6 enc Try.prog Try.f13 Rows.fnExactRoundTableRow.domain false) (Rows.fnExactRoundTableSpec.post enc Try.prog Try.f13 false true false false) := by
  refine returnsInHanded_of_change (C := Try.checked) own started (by kernel_rfl) Try.func13
    (ChangeSpec.witness6 (enc := enc) (C := Try.checked) false ⟨#[], #[.slice none 0 0, .int .i64 0, .int .i64 0], []⟩ 8 (by kernel_rfl) (by kernel_rfl) (by kernel_rfl) (by kernel_rfl)) ?_
  intro W base args ds gs before hval0 hW hcnd _
  have hval : ∀ (j : Nat) t v, Try.f13.params[j]? = some t → args[j]? = some v → Value.okWide Try.prog W .any base t v := hval0
  have hW' := hW
  obtain ⟨p, q, hA0, hV, rfl, hfz, hnd⟩ := hW
  have hA : DataW.TrodAll enc Try.prog W 0 (fun _ => true) true Try.f13.params.toList args.toList ds p := hA0
  rw [Try.params13] at hA hval
  obtain ⟨v0, vs0, d0, ds0, p0, q0, hargs, rfl, rfl, h0, r0⟩ := trodAll_cons hA
  obtain ⟨v1, vs1, d1, ds1, p1, q1, rfl, rfl, rfl, h1, r1⟩ := trodAll_cons r0
  obtain ⟨v2, vs2, d2, ds2, p2, q2, rfl, rfl, rfl, h2, r2⟩ := trodAll_cons r1
  obtain ⟨rfl, rfl, rfl⟩ := trodAll_nil r2
  obtain rfl : args = #[v0, v1, v2] := by cases args; simp_all
  obtain ⟨rfl, rfl⟩ := trodVars_none hV
  obtain ⟨l0, w0⟩ := open_ints (hval 0 22 v0 rfl rfl) h0
  obtain ⟨a1, rfl, rfl, rfl, w1⟩ := open_int Try.underlying3 (hval 1 3 v1 rfl rfl) h1
  obtain ⟨a2, rfl, rfl, rfl, w2⟩ := open_int Try.underlying3 (hval 2 3 v2 rfl rfl) h2
  refine (walk_FnExactRoundTable v0 l0 w0 a1 w1 a2 w2).mono fun e W' ⟨he, hg⟩ => ?_
  subst he
  exact ⟨_, rfl, law_post laidOut hW' rfl (by kernel_rfl) rfl Try.underlying4 rfl rfl rfl rfl hg⟩
theorem factA_FnExactRoundTable : factsA Try.prog 13 Try.f13 Rows.fnExactRoundTableSpec Rows.fnExactRoundTableRow = true := by kernel_rfl
theorem fact9_FnExactRoundTable : (Rows.fnExactRoundTableRow.inPlace == Try.prog.inPlace 13) = true := by kernel_rfl
theorem fact10_FnExactRoundTable : (Rows.fnExactRoundTableRow.unfollowed == Try.prog.unfollowed 13) = true := by kernel_rfl
theorem fact11_FnExactRoundTable : (Rows.fnExactRoundTableRow.recurses == Try.prog.recurses 13) = true := by kernel_rfl
theorem fact12_FnExactRoundTable : (Rows.fnExactRoundTableRow.named == Try.prog.varsNamed 13) = true := by kernel_rfl
theorem factB_FnExactRoundTable : factsB Try.prog 13 Try.f13 Rows.fnExactRoundTableSpec Rows.fnExactRoundTableRow = true := by kernel_rfl
theorem factN_FnExactRoundTable : Try.prog.funcNamed Rows.fnExactRoundTableRow.func = some 13 := by kernel_rfl
theorem proved_FnExactRoundTable : Rows.FnExactRoundTableSaid :=
  OpenClaim.holds_of_wide 13 Try.f13 rfl rfl rfl rfl rfl rfl rfl ⟨rfl, rfl, rfl, rfl, rfl⟩ rfl rfl rfl rfl rfl factN_FnExactRoundTable Try.func13 (closed_of factA_FnExactRoundTable fact9_FnExactRoundTable fact10_FnExactRoundTable fact11_FnExactRoundTable fact12_FnExactRoundTable factB_FnExactRoundTable rfl rfl rfl)
    (of_decide_eq_true (by kernel_rfl)) (by unfold Func.isWrapper; first | (rw [if_pos (by decide +kernel)]; kernel_rfl) | (rw [if_neg (by decide +kernel)]; exact ⟨rfl, rfl⟩))
    (fun os started H enc _ => lifted_FnExactRoundTable os started H enc)
end Go.Proofs.Ytjlehpoicplmpaa
