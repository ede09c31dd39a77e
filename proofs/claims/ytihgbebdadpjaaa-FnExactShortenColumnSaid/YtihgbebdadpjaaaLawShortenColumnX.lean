/- FnExactShortenColumn: the program's ShortenColumn returns what the reference's returns, for all arguments; it changes no argument, and what it returns is new memory each time. No condition. -/
import Derived.Test.YtihgbebdadpjaaaShort3
namespace Go.Proofs.Ytihgbebdadpjaaa
set_option linter.unusedVariables false
open Go.ChangeShapes Go.WideShapes Go.ChangeAt Go.RowKit

set_option maxHeartbeats 1000000 in
set_option maxRecDepth 100000 in
theorem walk_FnExactShortenColumn (va : Value) (xs : List ByteArray) {w : World} (hw : RdL w va (xs.map Value.string) ∧ xs.length ≤ 9223372036854775807 ∧ ∀ s ∈ xs, s.size ≤ 9223372036854775807) :
    Calls Try.prog 6 #[va] w fun e w' => e = .returned (.bool true) ∧ Below w.heap.size w w' := by
  obtain ⟨hR, hlen, hsz⟩ := hw
  replace hR : RdS w va xs := hR
  have hR0 := hR
  obtain ⟨ba, cap, rfl, hR1⟩ := hR0
  clear hR1
  simp only [List.length_map] at hR ⊢
  by_cases hbig : xs.length + tot xs ≤ 1048576
  · have hl : xs.length ≤ 1048576 := by omega
    obtain ⟨r, hr, hr0⟩ : ∃ r, szR xs 1048576 = r ∧ 0 ≤ r := ⟨_, rfl, by unfold szR; rw [if_pos (by omega)]; omega⟩
    have hLl := shorF_len xs
    generalize hL : shorF xs = L at hLl
    have HL : Hid (shorF xs = L) := hL
    clear hL
    go_enter Try.func6, Try.ntmps6
    go_wp2_with fail
    refine (c_szStringS _ xs _ w hR (by omega) hsz (by omega) (by omega)).mono ?_
    rintro e w1 ⟨he, hB⟩
    have hA : Below w.heap.size w w1 := (by first | exact hB | exact balloc hB)
    have hs1 := hB.size
    (try simp at hs1)
    clear hB
    rw [hr] at he; subst he
    go_wp2_with fail
    refine (k_to_strs _ xs _ (hR.kept hA) (by omega)).mono ?_
    rintro e w2 ⟨ta, rfl, o_ta, hB⟩
    replace hA := bthen hA hB
    have hs2 := hB.size
    clear hB
    have lt_ta := fun k hk => (o_ta.lt k hk).2
    go_wp2_with fail
    refine (c_spec_ShortenColumn _ xs _ (owns_RdS o_ta) (by omega) hsz).mono ?_
    rintro e w3 ⟨ws, rfl, o_ws, hB⟩
    replace o_ta := ownsRow_kept_below o_ta hB
    replace hA := bthen hA hB
    have hs3 := hB.size
    clear hB
    rw [HL.out] at o_ws
    have lt_ws := fun k hk => (o_ws.lt k hk).2
    clear o_ta
    go_wp2_with fail
    refine (k_to_strs _ xs _ (hR.kept hA) (by omega)).mono ?_
    rintro e w4 ⟨xa, rfl, o_xa, hB⟩
    replace o_ws := ownsRow_kept_below o_ws hB
    replace hA := bthen hA hB
    have hs4 := hB.size
    clear hB
    have lt_xa := fun k hk => (o_xa.lt k hk).2
    go_wp2_with fail
    refine (c_impl_ShortenColumn _ xs _ (owns_RdS o_xa) (by omega) hsz).mono ?_
    rintro e w5 ⟨gs, rfl, o_gs, hB⟩
    replace o_ws := ownsRow_kept_below o_ws hB
    replace o_xa := ownsRow_kept_below o_xa hB
    replace hA := bthen hA hB
    have hs5 := hB.size
    clear hB
    rw [HL.out] at o_gs
    have lt_gs := fun k hk => (o_gs.lt k hk).2
    go_wp2_with fail
    refine (k_eq_strs _ _ _ _ L _ o_gs o_ws (by omega)).mono ?_
    rintro e w6 ⟨rfl, hB⟩
    replace o_ws := ownsRow_kept_below o_ws hB
    replace o_xa := ownsRow_kept_below o_xa hB
    replace o_gs := ownsRow_kept_below o_gs hB
    replace hA := bthen hA hB
    have hs6 := hB.size
    clear hB
    go_wp2_with fail
    refine (k_to_strs _ xs _ (hR.kept hA) (by omega)).mono ?_
    rintro e w7 ⟨ya, rfl, o_ya, hB⟩
    replace o_ws := ownsRow_kept_below o_ws hB
    replace o_xa := ownsRow_kept_below o_xa hB
    replace o_gs := ownsRow_kept_below o_gs hB
    replace hA := bthen hA hB
    have hs7 := hB.size
    clear hB
    have lt_ya := fun k hk => (o_ya.lt k hk).2
    go_wp2_with fail
    refine (k_eq_strs _ _ _ _ xs _ o_xa o_ya (by omega)).mono ?_
    rintro e w8 ⟨rfl, hB⟩
    replace o_ws := ownsRow_kept_below o_ws hB
    replace o_xa := ownsRow_kept_below o_xa hB
    replace o_gs := ownsRow_kept_below o_gs hB
    replace o_ya := ownsRow_kept_below o_ya hB
    replace hA := bthen hA hB
    have hs8 := hB.size
    clear hB
    clear o_ya
    go_wp2_with fail
    refine (k_mark_strs _ _ xs _ _ o_xa (by omega) (by omega) (by omega) (by omega)).mono ?_
    rintro e w9 ⟨rfl, o_xa, hB, hG⟩
    replace o_ws := ownsRow_kept_old o_ws hB (fun k hk => by have := lt_ws k hk; omega)
    replace o_gs := ownsRow_kept_new o_gs hG (fun k hk => by have := lt_xa k hk; omega)
    replace hA := hA.trans (hB.mono (by omega))
    have hs9 := hB.size
    clear hB hG
    clear o_xa
    go_wp2_with fail
    refine (k_eq_strs _ _ _ _ L _ o_gs o_ws (by omega)).mono ?_
    rintro e w10 ⟨rfl, hB⟩
    replace o_ws := ownsRow_kept_below o_ws hB
    replace o_gs := ownsRow_kept_below o_gs hB
    replace hA := bthen hA hB
    have hs10 := hB.size
    clear hB
    go_wp2_with fail
    refine (k_mark_strs _ _ L _ _ o_gs (by omega) (by omega) (by omega) (by omega)).mono ?_
    rintro e w11 ⟨rfl, o_gs, hB, hG⟩
    replace o_ws := ownsRow_kept_old o_ws hB (fun k hk => by have := lt_ws k hk; omega)
    replace hA := hA.trans (hB.mono (by omega))
    have hs11 := hB.size
    clear hB hG
    go_wp2_with fail
    refine (k_held_strs _ _ _ L.length _ o_gs (by omega) (by omega) (by omega)).mono ?_
    rintro e w12 ⟨rfl, hB⟩
    replace o_ws := ownsRow_kept_below o_ws hB
    replace o_gs := ownsRow_kept_below o_gs hB
    replace hA := bthen hA hB
    have hs12 := hB.size
    clear hB
    go_wp2_with fail
    refine (k_to_strs _ xs _ (hR.kept hA) (by omega)).mono ?_
    rintro e w13 ⟨za, rfl, o_za, hB⟩
    replace o_ws := ownsRow_kept_below o_ws hB
    replace o_gs := ownsRow_kept_below o_gs hB
    replace hA := bthen hA hB
    have hs13 := hB.size
    clear hB
    have lt_za := fun k hk => (o_za.lt k hk).2
    go_wp2_with fail
    refine (c_impl_ShortenColumn _ xs _ (owns_RdS o_za) (by omega) hsz).mono ?_
    rintro e w14 ⟨hs, rfl, o_hs, hB⟩
    replace o_ws := ownsRow_kept_below o_ws hB
    replace o_gs := ownsRow_kept_below o_gs hB
    replace o_za := ownsRow_kept_below o_za hB
    replace hA := bthen hA hB
    have hs14 := hB.size
    clear hB
    rw [HL.out] at o_hs
    have lt_hs := fun k hk => (o_hs.lt k hk).2
    clear o_za
    go_wp2_with fail
    refine (k_eq_strs _ _ _ _ L _ o_hs o_ws (by omega)).mono ?_
    rintro e w15 ⟨rfl, hB⟩
    replace o_ws := ownsRow_kept_below o_ws hB
    replace o_gs := ownsRow_kept_below o_gs hB
    replace o_hs := ownsRow_kept_below o_hs hB
    replace hA := bthen hA hB
    have hs15 := hB.size
    clear hB
    go_wp2_with fail
    refine (k_held_strs _ _ _ L.length _ o_gs (by omega) (by omega) (by omega)).mono ?_
    rintro e w16 ⟨rfl, hB⟩
    replace o_ws := ownsRow_kept_below o_ws hB
    replace o_gs := ownsRow_kept_below o_gs hB
    replace o_hs := ownsRow_kept_below o_hs hB
    replace hA := bthen hA hB
    have hs16 := hB.size
    clear hB
    go_wp2_with fail
    go_ret
    exact ⟨rfl, hA⟩
  · have hr : szR xs 1048576 = -1 := by unfold szR; rw [if_neg (by omega)]
    go_enter Try.func6, Try.ntmps6
    go_wp2_with fail
    refine (c_szStringS _ xs _ w hR (by omega) hsz (by omega) (by omega)).mono ?_
    rintro e w1 ⟨he, hB⟩
    rw [hr] at he; subst he
    go_wp2
    go_ret
    exact ⟨rfl, hB⟩

set_option maxRecDepth 100000 in
theorem lifted_FnExactShortenColumn (os : Os) (started : os.Started) (H : Type) (enc : TypeId × Value → H) :
    ReturnsInHanded {} Try.checked os 6 .any (Rows.fnExactShortenColumnSpec.pre6 enc Try.prog Try.f6 Rows.fnExactShortenColumnRow.domain false) (Rows.fnExactShortenColumnSpec.post enc Try.prog Try.f6 false true false false) := by
  refine returnsInHanded_of_change (C := Try.checked) own started (by kernel_rfl) Try.func6
    (ChangeSpec.witness6 (enc := enc) (C := Try.checked) false ⟨#[], #[.slice none 0 0], []⟩ 8 (by kernel_rfl) (by kernel_rfl) (by kernel_rfl) (by kernel_rfl)) ?_
  intro W base args ds gs before hval0 hW hcnd _
  have hval : ∀ (j : Nat) t v, Try.f6.params[j]? = some t → args[j]? = some v → Value.okWide Try.prog W .any base t v := hval0
  have hW' := hW
  obtain ⟨p, q, hA0, hV, rfl, hfz, hnd⟩ := hW
  have hA : DataW.TrodAll enc Try.prog W 0 (fun _ => true) true Try.f6.params.toList args.toList ds p := hA0
  rw [Try.params6] at hA hval
  obtain ⟨v0, vs0, d0, ds0, p0, q0, hargs, rfl, rfl, h0, r0⟩ := trodAll_cons hA
  obtain ⟨rfl, rfl, rfl⟩ := trodAll_nil r0
  obtain rfl : args = #[v0] := by cases args; simp_all
  obtain ⟨rfl, rfl⟩ := trodVars_none hV
  obtain ⟨l0, w0⟩ := open_strs (hval 0 22 v0 rfl rfl) h0
  refine (walk_FnExactShortenColumn v0 l0 w0).mono fun e W' ⟨he, hg⟩ => ?_
  subst he
  exact ⟨_, rfl, law_post laidOut hW' rfl (by kernel_rfl) rfl Try.underlying4 rfl rfl rfl rfl hg⟩
theorem factA_FnExactShortenColumn : factsA Try.prog 6 Try.f6 Rows.fnExactShortenColumnSpec Rows.fnExactShortenColumnRow = true := by kernel_rfl
theorem fact9_FnExactShortenColumn : (Rows.fnExactShortenColumnRow.inPlace == Try.prog.inPlace 6) = true := by kernel_rfl
theorem fact10_FnExactShortenColumn : (Rows.fnExactShortenColumnRow.unfollowed == Try.prog.unfollowed 6) = true := by kernel_rfl
theorem fact11_FnExactShortenColumn : (Rows.fnExactShortenColumnRow.recurses == Try.prog.recurses 6) = true := by kernel_rfl
theorem fact12_FnExactShortenColumn : (Rows.fnExactShortenColumnRow.named == Try.prog.varsNamed 6) = true := by kernel_rfl
theorem factB_FnExactShortenColumn : factsB Try.prog 6 Try.f6 Rows.fnExactShortenColumnSpec Rows.fnExactShortenColumnRow = true := by kernel_rfl
theorem factN_FnExactShortenColumn : Try.prog.funcNamed Rows.fnExactShortenColumnRow.func = some 6 := by kernel_rfl
theorem proved_FnExactShortenColumn : Rows.FnExactShortenColumnSaid :=
  OpenClaim.holds_of_wide 6 Try.f6 rfl rfl rfl rfl rfl rfl rfl ⟨rfl, rfl, rfl, rfl, rfl⟩ rfl rfl rfl rfl rfl factN_FnExactShortenColumn Try.func6 (closed_of factA_FnExactShortenColumn fact9_FnExactShortenColumn fact10_FnExactShortenColumn fact11_FnExactShortenColumn fact12_FnExactShortenColumn factB_FnExactShortenColumn rfl rfl rfl)
    (of_decide_eq_true (by kernel_rfl)) (by unfold Func.isWrapper; first | (rw [if_pos (by decide +kernel)]; kernel_rfl) | (rw [if_neg (by decide +kernel)]; exact ⟨rfl, rfl⟩))
    (fun os started H enc _ => lifted_FnExactShortenColumn os started H enc)
end Go.Proofs.Ytihgbebdadpjaaa
