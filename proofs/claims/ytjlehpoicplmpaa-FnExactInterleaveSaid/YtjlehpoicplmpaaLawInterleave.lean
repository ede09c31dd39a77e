/- FnExactInterleave: the program's Interleave returns what the reference's returns, for all arguments; it changes no argument, and what it returns is new memory each time. No condition. -/
import Derived.Test.YtjlehpoicplmpaaDeal
namespace Go.Proofs.Ytjlehpoicplmpaa
set_option linter.unusedVariables false
open Go.ChangeShapes Go.WideShapes Go.ChangeAt Go.RowKit

theorem itR_len (xs ys : List Int) : (itR xs ys).length ≤ 120 := by
  unfold itR
  have h := itl_len xs ys xs.length
  split
  · rename_i hb
    have hb : (xs.length = ys.length ∨ xs.length = ys.length + 1) ∧ xs.length + ys.length ≤ 60 := by simpa [itB] using hb
    omega
  · simp

set_option maxHeartbeats 1000000 in
set_option maxRecDepth 100000 in
theorem walk_FnExactInterleave (va : Value) (xs : List Int) {w : World} (hw : RdL w va (xs.map (Value.int .i64)) ∧ xs.length ≤ 9223372036854775807 ∧ ∀ n ∈ xs, (Lit.int .i64 n).wf = true)
    (vb : Value) (ys : List Int) (hw2 : RdL w vb (ys.map (Value.int .i64)) ∧ ys.length ≤ 9223372036854775807 ∧ ∀ n ∈ ys, (Lit.int .i64 n).wf = true) :
    Calls Try.prog 4 #[va, vb] w fun e w' => e = .returned (.bool true) ∧ Below w.heap.size w w' := by
  obtain ⟨hR, hlen, _⟩ := hw
  obtain ⟨hR2, hlen2, _⟩ := hw2
  replace hR : RdI w va xs := hR
  replace hR2 : RdI w vb ys := hR2
  have hR0 := hR
  obtain ⟨a, cap, rfl, _⟩ := hR0
  have hR0 := hR2
  obtain ⟨a2, cap2, rfl, _⟩ := hR0
  simp only [List.length_map] at hR hR2 ⊢
  by_cases hbig : 1048576 < xs.length
  · go_enter Try.func4, Try.ntmps4
    go_wp2
    go_ret
    exact ⟨rfl, Below.refl _ _⟩
  by_cases hbig2 : 1048576 < ys.length
  · go_enter Try.func4, Try.ntmps4
    go_wp2
    go_ret
    exact ⟨rfl, Below.refl _ _⟩
  · have hl := itR_len xs ys
    generalize hL : itR xs ys = L at hl
    have HL : Hid (itR xs ys = L ∧ True) := ⟨hL, trivial⟩
    clear hL
    go_enter Try.func4, Try.ntmps4
    go_wp2_with fail
    refine (k_to_ints _ xs _ (hR) (by omega)).mono ?_
    rintro e w1 ⟨ta, rfl, o_ta, hB⟩
    have hA : Below w.heap.size w w1 := (by first | exact hB | exact balloc hB)
    have hs1 := hB.size
    (try simp at hs1)
    clear hB
    have lt_ta := fun k hk => (o_ta.lt k hk).2
    go_wp2_with fail
    refine (k_to_ints _ ys _ (hR2.kept hA) (by omega)).mono ?_
    rintro e w2 ⟨tb, rfl, o_tb, hB⟩
    replace o_ta := ownsRow_kept_below o_ta hB
    replace hA := bthen hA hB
    have hs2 := hB.size
    clear hB
    have lt_tb := fun k hk => (o_tb.lt k hk).2
    go_wp2_with fail
    refine (c_spec_Interleave _ _ xs ys _ (owns_RdI o_ta) (owns_RdI o_tb) (by omega) (by omega)).mono ?_
    rintro e w3 ⟨w, rfl, o_w, hB⟩
    replace o_ta := ownsRow_kept_below o_ta hB
    replace o_tb := ownsRow_kept_below o_tb hB
    replace hA := bthen hA hB
    have hs3 := hB.size
    clear hB
    rw [HL.out.1] at o_w
    have lt_w := fun k hk => (o_w.lt k hk).2
    clear o_ta
    clear o_tb
    go_wp2_with fail
    refine (k_to_ints _ xs _ (hR.kept hA) (by omega)).mono ?_
    rintro e w4 ⟨xa, rfl, o_xa, hB⟩
    replace o_w := ownsRow_kept_below o_w hB
    replace hA := bthen hA hB
    have hs4 := hB.size
    clear hB
    have lt_xa := fun k hk => (o_xa.lt k hk).2
    go_wp2_with fail
    refine (k_to_ints _ ys _ (hR2.kept hA) (by omega)).mono ?_
    rintro e w5 ⟨xb, rfl, o_xb, hB⟩
    replace o_w := ownsRow_kept_below o_w hB
    replace o_xa := ownsRow_kept_below o_xa hB
    replace hA := bthen hA hB
    have hs5 := hB.size
    clear hB
    have lt_xb := fun k hk => (o_xb.lt k hk).2
    go_wp2_with fail
    refine (c_impl_Interleave _ _ xs ys _ (owns_RdI o_xa) (owns_RdI o_xb) (by omega) (by omega)).mono ?_
    rintro e w6 ⟨g, rfl, o_g, hB⟩
    replace o_w := ownsRow_kept_below o_w hB
    replace o_xa := ownsRow_kept_below o_xa hB
    replace o_xb := ownsRow_kept_below o_xb hB
    replace hA := bthen hA hB
    have hs6 := hB.size
    clear hB
    rw [HL.out.1] at o_g
    have lt_g := fun k hk => (o_g.lt k hk).2
    go_wp2_with fail
    refine (k_eq_ints _ _ _ _ L _ o_g o_w (by omega)).mono ?_
    rintro e w7 ⟨rfl, hB⟩
    replace o_w := ownsRow_kept_below o_w hB
    replace o_xa := ownsRow_kept_below o_xa hB
    replace o_xb := ownsRow_kept_below o_xb hB
    replace o_g := ownsRow_kept_below o_g hB
    replace hA := bthen hA hB
    have hs7 := hB.size
    clear hB
    go_wp2_with fail
    refine (k_to_ints _ xs _ (hR.kept hA) (by omega)).mono ?_
    rintro e w8 ⟨ya, rfl, o_ya, hB⟩
    replace o_w := ownsRow_kept_below o_w hB
    replace o_xa := ownsRow_kept_below o_xa hB
    replace o_xb := ownsRow_kept_below o_xb hB
    replace o_g := ownsRow_kept_below o_g hB
    replace hA := bthen hA hB
    have hs8 := hB.size
    clear hB
    have lt_ya := fun k hk => (o_ya.lt k hk).2
    go_wp2_with fail
    refine (k_eq_ints _ _ _ _ xs _ o_xa o_ya (by omega)).mono ?_
    rintro e w9 ⟨rfl, hB⟩
    replace o_w := ownsRow_kept_below o_w hB
    replace o_xa := ownsRow_kept_below o_xa hB
    replace o_xb := ownsRow_kept_below o_xb hB
    replace o_g := ownsRow_kept_below o_g hB
    replace o_ya := ownsRow_kept_below o_ya hB
    replace hA := bthen hA hB
    have hs9 := hB.size
    clear hB
    clear o_ya
    go_wp2_with fail
    refine (k_to_ints _ ys _ (hR2.kept hA) (by omega)).mono ?_
    rintro e w10 ⟨yb, rfl, o_yb, hB⟩
    replace o_w := ownsRow_kept_below o_w hB
    replace o_xa := ownsRow_kept_below o_xa hB
    replace o_xb := ownsRow_kept_below o_xb hB
    replace o_g := ownsRow_kept_below o_g hB
    replace hA := bthen hA hB
    have hs10 := hB.size
    clear hB
    have lt_yb := fun k hk => (o_yb.lt k hk).2
    go_wp2_with fail
    refine (k_eq_ints _ _ _ _ ys _ o_xb o_yb (by omega)).mono ?_
    rintro e w11 ⟨rfl, hB⟩
    replace o_w := ownsRow_kept_below o_w hB
    replace o_xa := ownsRow_kept_below o_xa hB
    replace o_xb := ownsRow_kept_below o_xb hB
    replace o_g := ownsRow_kept_below o_g hB
    replace o_yb := ownsRow_kept_below o_yb hB
    replace hA := bthen hA hB
    have hs11 := hB.size
    clear hB
    clear o_yb
    go_wp2_with fail
    refine (k_mark_ints _ _ xs _ _ o_xa (by omega) (by omega) (by omega) (by omega)).mono ?_
    rintro e w12 ⟨rfl, o_xa, hB, hG⟩
    replace o_w := ownsRow_kept_old o_w hB (fun k hk => by have := lt_w k hk; omega)
    replace o_xb := ownsRow_kept_new o_xb hG (fun k hk => by have := lt_xa k hk; omega)
    replace o_g := ownsRow_kept_new o_g hG (fun k hk => by have := lt_xa k hk; omega)
    replace hA := hA.trans (hB.mono (by omega))
    have hs12 := hB.size
    clear hB hG
    go_wp2_with fail
    refine (k_mark_ints _ _ ys _ _ o_xb (by omega) (by omega) (by omega) (by omega)).mono ?_
    rintro e w13 ⟨rfl, o_xb, hB, hG⟩
    replace o_w := ownsRow_kept_old o_w hB (fun k hk => by have := lt_w k hk; omega)
    replace o_xa := ownsRow_kept_old o_xa hB (fun k hk => by have := lt_xa k hk; omega)
    replace o_g := ownsRow_kept_new o_g hG (fun k hk => by have := lt_xb k hk; omega)
    replace hA := hA.trans (hB.mono (by omega))
    have hs13 := hB.size
    clear hB hG
    clear o_xa
    clear o_xb
    go_wp2_with fail
    refine (k_eq_ints _ _ _ _ L _ o_g o_w (by omega)).mono ?_
    rintro e w14 ⟨rfl, hB⟩
    replace o_w := ownsRow_kept_below o_w hB
    replace o_g := ownsRow_kept_below o_g hB
    replace hA := bthen hA hB
    have hs14 := hB.size
    clear hB
    go_wp2_with fail
    refine (k_mark_ints _ _ L _ _ o_g (by omega) (by omega) (by omega) (by omega)).mono ?_
    rintro e w15 ⟨rfl, o_g, hB, hG⟩
    replace o_w := ownsRow_kept_old o_w hB (fun k hk => by have := lt_w k hk; omega)
    replace hA := hA.trans (hB.mono (by omega))
    have hs15 := hB.size
    clear hB hG
    go_wp2_with fail
    refine (k_held_ints _ _ _ L.length _ o_g (by omega) (by omega) (by omega)).mono ?_
    rintro e w16 ⟨rfl, hB⟩
    replace o_w := ownsRow_kept_below o_w hB
    replace o_g := ownsRow_kept_below o_g hB
    replace hA := bthen hA hB
    have hs16 := hB.size
    clear hB
    go_wp2_with fail
    refine (k_to_ints _ xs _ (hR.kept hA) (by omega)).mono ?_
    rintro e w17 ⟨za, rfl, o_za, hB⟩
    replace o_w := ownsRow_kept_below o_w hB
    replace o_g := ownsRow_kept_below o_g hB
    replace hA := bthen hA hB
    have hs17 := hB.size
    clear hB
    have lt_za := fun k hk => (o_za.lt k hk).2
    go_wp2_with fail
    refine (k_to_ints _ ys _ (hR2.kept hA) (by omega)).mono ?_
    rintro e w18 ⟨zb, rfl, o_zb, hB⟩
    replace o_w := ownsRow_kept_below o_w hB
    replace o_g := ownsRow_kept_below o_g hB
    replace o_za := ownsRow_kept_below o_za hB
    replace hA := bthen hA hB
    have hs18 := hB.size
    clear hB
    have lt_zb := fun k hk => (o_zb.lt k hk).2
    go_wp2_with fail
    refine (c_impl_Interleave _ _ xs ys _ (owns_RdI o_za) (owns_RdI o_zb) (by omega) (by omega)).mono ?_
    rintro e w19 ⟨h, rfl, o_h, hB⟩
    replace o_w := ownsRow_kept_below o_w hB
    replace o_g := ownsRow_kept_below o_g hB
    replace o_za := ownsRow_kept_below o_za hB
    replace o_zb := ownsRow_kept_below o_zb hB
    replace hA := bthen hA hB
    have hs19 := hB.size
    clear hB
    rw [HL.out.1] at o_h
    have lt_h := fun k hk => (o_h.lt k hk).2
    clear o_za
    clear o_zb
    go_wp2_with fail
    refine (k_eq_ints _ _ _ _ L _ o_h o_w (by omega)).mono ?_
    rintro e w20 ⟨rfl, hB⟩
    replace o_w := ownsRow_kept_below o_w hB
    replace o_g := ownsRow_kept_below o_g hB
    replace o_h := ownsRow_kept_below o_h hB
    replace hA := bthen hA hB
    have hs20 := hB.size
    clear hB
    go_wp2_with fail
    refine (k_held_ints _ _ _ L.length _ o_g (by omega) (by omega) (by omega)).mono ?_
    rintro e w21 ⟨rfl, hB⟩
    replace o_w := ownsRow_kept_below o_w hB
    replace o_g := ownsRow_kept_below o_g hB
    replace o_h := ownsRow_kept_below o_h hB
    replace hA := bthen hA hB
    have hs21 := hB.size
    clear hB
    go_wp2_with fail
    go_ret
    exact ⟨rfl, hA⟩

set_option maxRecDepth 100000 in
theorem lifted_FnExactInterleave (os : Os) (started : os.Started) (H : Type) (enc : TypeId × Value → H) :
    ReturnsInHanded {} Try.checked os 4 .any (Rows.fnExactInterleaveSpec.pre6 enc Try.prog Try.f4 Rows.fnExactInterleaveRow.domain false) (Rows.fnExactInterleaveSpec.post enc Try.prog Try.f4 false true false false) := by
  refine returnsInHanded_of_change (C := Try.checked) own started (by kernel_rfl) Try.func4
    (ChangeSpec.witness6 (enc := enc) (C := Try.checked) false ⟨#[], #[.slice none 0 0, .slice none 0 0], []⟩ 8 (by kernel_rfl) (by kernel_rfl) (by kernel_rfl) (by kernel_rfl)) ?_
  intro W base args ds gs before hval0 hW hcnd _
  have hval : ∀ (j : Nat) t v, Try.f4.params[j]? = some t → args[j]? = some v → Value.okWide Try.prog W .any base t v := hval0
  have hW' := hW
  obtain ⟨p, q, hA0, hV, rfl, hfz, hnd⟩ := hW
  have hA : DataW.TrodAll enc Try.prog W 0 (fun _ => true) true Try.f4.params.toList args.toList ds p := hA0
  rw [Try.params4] at hA hval
  obtain ⟨v0, vs0, d0, ds0, p0, q0, hargs, rfl, rfl, h0, r0⟩ := trodAll_cons hA
  obtain ⟨v1, vs1, d1, ds1, p1, q1, rfl, rfl, rfl, h1, r1⟩ := trodAll_cons r0
  obtain ⟨rfl, rfl, rfl⟩ := trodAll_nil r1
  obtain rfl : args = #[v0, v1] := by cases args; simp_all
  obtain ⟨rfl, rfl⟩ := trodVars_none hV
  obtain ⟨l0, w0⟩ := open_ints (hval 0 22 v0 rfl rfl) h0
  obtain ⟨l1, w1⟩ := open_ints (hval 1 22 v1 rfl rfl) h1
  refine (walk_FnExactInterleave v0 l0 w0 v1 l1 w1).mono fun e W' ⟨he, hg⟩ => ?_
  subst he
  exact ⟨_, rfl, law_post laidOut hW' rfl (by kernel_rfl) rfl Try.underlying4 rfl rfl rfl rfl hg⟩
theorem factA_FnExactInterleave : factsA Try.prog 4 Try.f4 Rows.fnExactInterleaveSpec Rows.fnExactInterleaveRow = true := by kernel_rfl
theorem fact9_FnExactInterleave : (Rows.fnExactInterleaveRow.inPlace == Try.prog.inPlace 4) = true := by kernel_rfl
theorem fact10_FnExactInterleave : (Rows.fnExactInterleaveRow.unfollowed == Try.prog.unfollowed 4) = true := by kernel_rfl
theorem fact11_FnExactInterleave : (Rows.fnExactInterleaveRow.recurses == Try.prog.recurses 4) = true := by kernel_rfl
theorem fact12_FnExactInterleave : (Rows.fnExactInterleaveRow.named == Try.prog.varsNamed 4) = true := by kernel_rfl
theorem factB_FnExactInterleave : factsB Try.prog 4 Try.f4 Rows.fnExactInterleaveSpec Rows.fnExactInterleaveRow = true := by kernel_rfl
theorem factN_FnExactInterleave : Try.prog.funcNamed Rows.fnExactInterleaveRow.func = some 4 := by kernel_rfl
theorem proved_FnExactInterleave : Rows.FnExactInterleaveSaid :=
  OpenClaim.holds_of_wide 4 Try.f4 rfl rfl rfl rfl rfl rfl rfl ⟨rfl, rfl, rfl, rfl, rfl⟩ rfl rfl rfl rfl rfl factN_FnExactInterleave Try.func4 (closed_of factA_FnExactInterleave fact9_FnExactInterleave fact10_FnExactInterleave fact11_FnExactInterleave fact12_FnExactInterleave factB_FnExactInterleave rfl rfl rfl)
    (of_decide_eq_true (by kernel_rfl)) (by unfold Func.isWrapper; first | (rw [if_pos (by decide +kernel)]; kernel_rfl) | (rw [if_neg (by decide +kernel)]; exact ⟨rfl, rfl⟩))
    (fun os started H enc _ => lifted_FnExactInterleave os started H enc)
end Go.Proofs.Ytjlehpoicplmpaa
