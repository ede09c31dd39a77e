/- FnExactReadStereotype: the program's ReadStereotype returns what the reference's returns, for all arguments; it changes no argument, and what it returns is new memory each time. The tables that the card lists are tied to the program's text by the given tie. No condition. -/
import Derived.Test.YthpchphncelkpaaDoorRSt2
import Derived.Test.YthpchphncelkpaaDoorMstr
import Derived.Test.YthpchphncelkpaaDoorTie
import Derived.Test.YthpchphncelkpaaDoorCards
import Derived.LaidMore
import Derived.Lay
import Derived.LaidSub
import Derived.MakeChecks
import Derived.Stop.Joined
import Derived.SevenTiedAt
namespace Go.Proofs.YthpchphncelkpaaDoor
set_option linter.unusedVariables false
open Go.ChangeShapes Go.WideShapes Go.ChangeAt Go.RowKit

set_option maxHeartbeats 1000000 in
set_option maxRecDepth 100000 in
theorem walk_FnExactReadStereotype (va : Value) (xs : List ByteArray) {w : World} (hw : RdL w va (xs.map Value.string) ∧ xs.length ≤ 9223372036854775807 ∧ ∀ s ∈ xs, s.size ≤ 9223372036854775807) :
    Calls Tryd.prog 8 #[va] w fun e w' => e = .returned (.bool true) ∧ Below w.heap.size w w' := by
  obtain ⟨hR, hlen, hsz⟩ := hw
  replace hR : RdS w va xs := hR
  have hR0 := hR
  obtain ⟨ba, cap, rfl, hR1⟩ := hR0
  clear hR1
  simp only [List.length_map] at hR ⊢
  by_cases hbig : xs.length + tot xs ≤ 1048576
  · have hl : xs.length ≤ 1048576 := by omega
    obtain ⟨r, hr, hr0⟩ : ∃ r, szR xs 1048576 = r ∧ 0 ≤ r := ⟨_, rfl, by unfold szR; rw [if_pos (by omega)]; omega⟩
    have hszz : ∀ s ∈ xs, s.size ≤ 1048576 := fun s h => by have := tot_mem h; omega
    have hLl := rsF_len xs
    generalize hL : rsF xs = L at hLl
    have HL : Hid (rsF xs = L) := hL
    clear hL
    go_enter Tryd.func8, Tryd.ntmps8
    go_wp2_with fail
    refine (c_szStringS _ xs _ w hR (by omega) hsz (by omega) (by omega)).mono ?_
    rintro e w1 ⟨he, hB⟩
    have hA : Below w.heap.size w w1 := (by first | exact hB | exact balloc hB)
    have hs1 := hB.size
    (try simp at hs1)
    clear hB
    rw [hr] at he; subst he
    go_wp2_with fail
    refine (k_to_strs _ xs _ (hR.kept hA) (by omega)).mono ?_
    rintro e w2 ⟨ta, rfl, o_ta, hB⟩
    replace hA := bthen hA hB
    have hs2 := hB.size
    clear hB
    have lt_ta := fun k hk => (o_ta.lt k hk).2
    go_wp2_with fail
    refine (c_spec_ReadStereotype _ xs _ (owns_RdS o_ta) hl hszz).mono ?_
    rintro e w3 ⟨ws, rfl, o_ws, hB⟩
    replace o_ta := ownsRow_kept_below o_ta hB
    replace hA := bthen hA hB
    have hs3 := hB.size
    clear hB
    rw [HL.out] at o_ws
    have lt_ws := fun k hk => (o_ws.lt k hk).2
    clear o_ta
    go_wp2_with fail
    refine (k_to_strs _ xs _ (hR.kept hA) (by omega)).mono ?_
    rintro e w4 ⟨xa, rfl, o_xa, hB⟩
    replace o_ws := ownsRow_kept_below o_ws hB
    replace hA := bthen hA hB
    have hs4 := hB.size
    clear hB
    have lt_xa := fun k hk => (o_xa.lt k hk).2
    go_wp2_with fail
    refine (c_impl_ReadStereotype _ xs _ (owns_RdS o_xa) hl hszz).mono ?_
    rintro e w5 ⟨gs, rfl, o_gs, hB⟩
    replace o_ws := ownsRow_kept_below o_ws hB
    replace o_xa := ownsRow_kept_below o_xa hB
    replace hA := bthen hA hB
    have hs5 := hB.size
    clear hB
    rw [HL.out] at o_gs
    have lt_gs := fun k hk => (o_gs.lt k hk).2
    go_wp2_with fail
    refine (k_eq_strs _ _ _ _ L _ o_gs o_ws (by omega)).mono ?_
    rintro e w6 ⟨rfl, hB⟩
    replace o_ws := ownsRow_kept_below o_ws hB
    replace o_xa := ownsRow_kept_below o_xa hB
    replace o_gs := ownsRow_kept_below o_gs hB
    replace hA := bthen hA hB
    have hs6 := hB.size
    clear hB
    go_wp2_with fail
    refine (k_to_strs _ xs _ (hR.kept hA) (by omega)).mono ?_
    rintro e w7 ⟨ya, rfl, o_ya, hB⟩
    replace o_ws := ownsRow_kept_below o_ws hB
    replace o_xa := ownsRow_kept_below o_xa hB
    replace o_gs := ownsRow_kept_below o_gs hB
    replace hA := bthen hA hB
    have hs7 := hB.size
    clear hB
    have lt_ya := fun k hk => (o_ya.lt k hk).2
    go_wp2_with fail
    refine (k_eq_strs _ _ _ _ xs _ o_xa o_ya (by omega)).mono ?_
    rintro e w8 ⟨rfl, hB⟩
    replace o_ws := ownsRow_kept_below o_ws hB
    replace o_xa := ownsRow_kept_below o_xa hB
    replace o_gs := ownsRow_kept_below o_gs hB
    replace o_ya := ownsRow_kept_below o_ya hB
    replace hA := bthen hA hB
    have hs8 := hB.size
    clear hB
    clear o_ya
    go_wp2_with fail
    refine (k_mark_strs _ _ xs _ _ o_xa (by omega) (by omega) (by omega) (by omega)).mono ?_
    rintro e w9 ⟨rfl, o_xa, hB, hG⟩
    replace o_ws := ownsRow_kept_old o_ws hB (fun k hk => by have := lt_ws k hk; omega)
    replace o_gs := ownsRow_kept_new o_gs hG (fun k hk => by have := lt_xa k hk; omega)
    replace hA := hA.trans (hB.mono (by omega))
    have hs9 := hB.size
    clear hB hG
    clear o_xa
    go_wp2_with fail
    refine (k_eq_strs _ _ _ _ L _ o_gs o_ws (by omega)).mono ?_
    rintro e w10 ⟨rfl, hB⟩
    replace o_ws := ownsRow_kept_below o_ws hB
    replace o_gs := ownsRow_kept_below o_gs hB
    replace hA := bthen hA hB
    have hs10 := hB.size
    clear hB
    go_wp2_with fail
    refine (k_mark_strs _ _ L _ _ o_gs (by omega) (by omega) (by omega) (by omega)).mono ?_
    rintro e w11 ⟨rfl, o_gs, hB, hG⟩
    replace o_ws := ownsRow_kept_old o_ws hB (fun k hk => by have := lt_ws k hk; omega)
    replace hA := hA.trans (hB.mono (by omega))
    have hs11 := hB.size
    clear hB hG
    go_wp2_with fail
    refine (k_held_strs _ _ _ L.length _ o_gs (by omega) (by omega) (by omega)).mono ?_
    rintro e w12 ⟨rfl, hB⟩
    replace o_ws := ownsRow_kept_below o_ws hB
    replace o_gs := ownsRow_kept_below o_gs hB
    replace hA := bthen hA hB
    have hs12 := hB.size
    clear hB
    go_wp2_with fail
    refine (k_to_strs _ xs _ (hR.kept hA) (by omega)).mono ?_
    rintro e w13 ⟨za, rfl, o_za, hB⟩
    replace o_ws := ownsRow_kept_below o_ws hB
    replace o_gs := ownsRow_kept_below o_gs hB
    replace hA := bthen hA hB
    have hs13 := hB.size
    clear hB
    have lt_za := fun k hk => (o_za.lt k hk).2
    go_wp2_with fail
    refine (c_impl_ReadStereotype _ xs _ (owns_RdS o_za) hl hszz).mono ?_
    rintro e w14 ⟨hs, rfl, o_hs, hB⟩
    replace o_ws := ownsRow_kept_below o_ws hB
    replace o_gs := ownsRow_kept_below o_gs hB
    replace o_za := ownsRow_kept_below o_za hB
    replace hA := bthen hA hB
    have hs14 := hB.size
    clear hB
    rw [HL.out] at o_hs
    have lt_hs := fun k hk => (o_hs.lt k hk).2
    clear o_za
    go_wp2_with fail
    refine (k_eq_strs _ _ _ _ L _ o_hs o_ws (by omega)).mono ?_
    rintro e w15 ⟨rfl, hB⟩
    replace o_ws := ownsRow_kept_below o_ws hB
    replace o_gs := ownsRow_kept_below o_gs hB
    replace o_hs := ownsRow_kept_below o_hs hB
    replace hA := bthen hA hB
    have hs15 := hB.size
    clear hB
    go_wp2_with fail
    refine (k_held_strs _ _ _ L.length _ o_gs (by omega) (by omega) (by omega)).mono ?_
    rintro e w16 ⟨rfl, hB⟩
    replace o_ws := ownsRow_kept_below o_ws hB
    replace o_gs := ownsRow_kept_below o_gs hB
    replace o_hs := ownsRow_kept_below o_hs hB
    replace hA := bthen hA hB
    have hs16 := hB.size
    clear hB
    go_wp2_with fail
    go_ret
    exact ⟨rfl, hA⟩
  · have hr : szR xs 1048576 = -1 := by unfold szR; rw [if_neg (by omega)]
    go_enter Tryd.func8, Tryd.ntmps8
    go_wp2_with fail
    refine (c_szStringS _ xs _ w hR (by omega) hsz (by omega) (by omega)).mono ?_
    rintro e w1 ⟨he, hB⟩
    rw [hr] at he; subst he
    go_wp2
    go_ret
    exact ⟨rfl, hB⟩

set_option maxRecDepth 100000 in
theorem lifted_FnExactReadStereotype (os : Os) (started : os.Started) (H : Type) (enc : TypeId × Value → H) :
    ReturnsInHanded {} Tryd.checked os 8 .any (fun w args => (Rows.fnExactReadStereotypeSpec.pre enc Tryd.prog Tryd.f8 [] false w args ∧ laidMetH Tryd.prog Rows.fnExactReadStereotypeRow.laid w) ∧ sizedMet enc Tryd.prog Tryd.f8 (OpenSpec.ofChange Rows.fnExactReadStereotypeSpec) false w args)
      (Rows.fnExactReadStereotypeSpec.post enc Tryd.prog Tryd.f8 false true false false) := by
  refine returnsInHanded_of_change_and (C := Tryd.checked) (X := fun w _ => laidMetH Tryd.prog Rows.fnExactReadStereotypeRow.laid w) (fun _ _ _ hh h => h.of_heap hh) own started (by kernel_rfl) Tryd.func8
    (ChangeSpec.witness_shaped (enc := enc) (C := Tryd.checked) (os := os) (X := fun w _ => laidMetH Tryd.prog Rows.fnExactReadStereotypeRow.laid w) false (World.laidAll Tryd.prog os Rows.fnExactReadStereotypeRow.laid) #[.slice none 0 0] 8 (World.laidAll_os _ _ _)
      (World.shaped_of_ZipB (by kernel_rfl) (by kernel_rfl)) (by kernel_rfl) (by kernel_rfl) (by kernel_rfl) (by rw [MakeChecks.laidMetH_plain _ _ _ (by kernel_rfl)]; exact laidMet_laidAll _ (by kernel_rfl) (by kernel_rfl))) ?_
  intro W base args ds gs before hval0 hW _ _ hL _
  have hval : ∀ (j : Nat) t v, Tryd.f8.params[j]? = some t → args[j]? = some v → Value.okWide Tryd.prog W .any base t v := hval0
  have hW' := hW
  obtain ⟨p, q, hA0, hV, rfl, hfz, hnd⟩ := hW
  have hA : DataW.TrodAll enc Tryd.prog W 0 (fun _ => true) true Tryd.f8.params.toList args.toList ds p := hA0
  rw [Tryd.params8] at hA hval
  obtain ⟨v0, vs0, d0, ds0, p0, q0, hargs, rfl, rfl, h0, r0⟩ := trodAll_cons hA
  obtain ⟨rfl, rfl, rfl⟩ := trodAll_nil r0
  obtain rfl : args = #[v0] := by cases args; simp_all
  obtain ⟨rfl, rfl⟩ := trodVars_none hV
  obtain ⟨l0, w0⟩ := open_strs (hval 0 23 v0 rfl rfl) h0
  refine (walk_FnExactReadStereotype v0 l0 w0).mono fun e W' ⟨he, hg⟩ => ?_
  subst he
  exact ⟨_, rfl, law_post laidOut hW' rfl (by kernel_rfl) rfl Tryd.underlying4 rfl rfl rfl rfl hg⟩
theorem factA_FnExactReadStereotype : factsA Tryd.prog 8 Tryd.f8 Rows.fnExactReadStereotypeSpec Rows.fnExactReadStereotypeRow = true := by kernel_rfl
theorem fact9_FnExactReadStereotype : (Rows.fnExactReadStereotypeRow.inPlace == Tryd.prog.inPlace 8) = true := by kernel_rfl
theorem fact10_FnExactReadStereotype : (Rows.fnExactReadStereotypeRow.unfollowed == Tryd.prog.unfollowed 8) = true := by kernel_rfl
theorem fact11_FnExactReadStereotype : (Rows.fnExactReadStereotypeRow.recurses == Tryd.prog.recurses 8) = true := by kernel_rfl
theorem fact12_FnExactReadStereotype : (Rows.fnExactReadStereotypeRow.named == Tryd.prog.varsNamed 8) = true := by kernel_rfl
theorem factB_FnExactReadStereotype : factsB Tryd.prog 8 Tryd.f8 Rows.fnExactReadStereotypeSpec Rows.fnExactReadStereotypeRow = true := by kernel_rfl
theorem factN_FnExactReadStereotype : Tryd.prog.funcNamed Rows.fnExactReadStereotypeRow.func = some 8 := by kernel_rfl
theorem proved_FnExactReadStereotype : Rows.FnExactReadStereotypeSaid :=
  OpenClaim.holds_of_wide 8 Tryd.f8 rfl rfl rfl rfl rfl rfl rfl ⟨rfl, rfl, rfl, rfl, rfl⟩ rfl rfl rfl rfl rfl factN_FnExactReadStereotype Tryd.func8 (closed_of factA_FnExactReadStereotype fact9_FnExactReadStereotype fact10_FnExactReadStereotype fact11_FnExactReadStereotype fact12_FnExactReadStereotype factB_FnExactReadStereotype rfl rfl rfl)
    (of_decide_eq_true (by kernel_rfl)) (by unfold Func.isWrapper; first | (rw [if_pos (by decide +kernel)]; kernel_rfl) | (rw [if_neg (by decide +kernel)]; exact ⟨rfl, rfl⟩))
    (fun os started H enc _ => lifted_FnExactReadStereotype os started H enc)
theorem card_FnExactReadStereotype : Rows.FnExactReadStereotypeCardSaid :=
  Claim7.holds_tied_plain_at .later [] [.data, .pinned] true (true, "bc6ca8dfee119a1eb64999733c4ff5f625e0ee3f9493a39b5d121a8fe50f1854") true
    proved_FnExactReadStereotype (fun _ h => by cases h) (by kernel_rfl) (fun _ h => by cases h) fnExactReadStereotype_row_tie rfl ⟨rfl, rfl⟩ (by kernel_rfl) rfl
    (fun f fn hf hfn => by
      obtain rfl : f = 8 := Option.some.inj (factN_FnExactReadStereotype.symm.trans hf) |>.symm
      obtain rfl : fn = Tryd.f8 := (Option.some.inj (Tryd.func8.symm.trans hfn)).symm
      exact ⟨by kernel_rfl, fun j t ht => by
        rw [Tryd.params8] at ht
        have hm : t ∈ [23] := by simpa using Array.mem_of_getElem? ht
        have hall : ([23].all fun u => !Tryd.prog.wantsStandIn u) = true := by kernel_rfl
        exact (show Tryd.prog.wantsStandIn t = false by simpa using List.all_eq_true.1 hall t hm)⟩)
    (by kernel_rfl)
end Go.Proofs.YthpchphncelkpaaDoor
