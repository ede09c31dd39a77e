/- FnReadStereotype: lines that are read from a plate can be printed, and make the plate. The tables that the card lists are tied to the program's text by the given tie. -/
import Derived.Test.YthpchphncelkpaaDoorRSt2
import Derived.Test.YthpchphncelkpaaDoorDrawRS
import Derived.Test.YthpchphncelkpaaDoorDeT
import Derived.Test.YthpchphncelkpaaDoorTie
import Derived.Test.YthpchphncelkpaaDoorCards
import Derived.LaidMore
import Derived.Lay
import Derived.LaidSub
import Derived.MakeChecks
import Derived.Stop.Joined
import Derived.SevenTiedAt
namespace Go.Proofs.YthpchphncelkpaaDoor
set_option linter.unusedVariables false
open Go.ChangeShapes Go.WideShapes Go.ChangeAt Go.RowKit

set_option maxHeartbeats 4000000 in
set_option maxRecDepth 100000 in
theorem walk_FnReadStereotype (v : Value) (cs : List Int) {w : World} (hw : RdL w v (cs.map (Value.int .u8)) ∧ cs.length ≤ 9223372036854775807 ∧ (∀ n ∈ cs, (Lit.int .u8 n).wf = true) ∧ CapOk v) :
    Calls Tryd.prog 7 #[v] w fun e w' => e = .returned (.bool true) ∧ Below w.heap.size w w' := by
  obtain ⟨hR, hlen, hwf, hcap⟩ := hw
  have hR0 := hR
  obtain ⟨a, cap, rfl, hR1⟩ := hR0
  clear hR1
  simp only [List.length_map] at hR hcap ⊢
  by_cases hbig : 1048576 < cs.length
  · clear hR hcap hwf
    go_enter Tryd.func7, Tryd.ntmps7
    go_wp2
    go_ret
    exact ⟨rfl, Below.refl _ _⟩
  · go_enter Tryd.func7, Tryd.ntmps7
    go_wp2_with fail
    refine (c_DrawReadStereotype _ cs w hR (by omega) hwf hcap).mono ?_
    rintro e w0 ⟨vl, xs, rfl, o_l, hx1, hx2, hA⟩
    clear hR hwf hcap
    have r_l := owns_RdS o_l
    clear o_l
    obtain ⟨al, cl, rfl⟩ := RdS_form r_l
    go_wp2_with fail
    refine (c_impl_ReadStereotype _ xs _ r_l (by omega) (fun s h => by have := hx2 s h; omega)).mono ?_
    rintro e w1 ⟨vi, rfl, o_i, hB⟩
    replace r_l := RdS.kept r_l hB
    replace hA := bthen hA hB
    clear hB
    have r_i := owns_RdS o_i
    clear o_i
    go_wp2_with fail
    refine (c_spec_ReadStereotype _ xs _ r_l (by omega) (fun s h => by have := hx2 s h; omega)).mono ?_
    rintro e w2 ⟨vs, rfl, o_s, hB⟩
    replace r_l := RdS.kept r_l hB
    replace r_i := RdS.kept r_i hB
    replace hA := bthen hA hB
    clear hB
    have r_s := owns_RdS o_s
    clear o_s
    have hPl := rsF_len xs
    have HB : Hid (rsB xs = true → linesB (rsF xs) = true ∧ plateF (rsF xs) = xs) := fun h => by
      have h2 := h
      unfold rsB at h2
      rw [Bool.and_eq_true, decide_eq_true_eq] at h2
      unfold rsF; rw [if_pos h]; exact h2
    have HSZ : Hid (∀ s ∈ rsF xs, s.size ≤ 200) := fun s h => by
      unfold rsF at h; split at h
      · obtain ⟨y, hy, rfl⟩ := List.mem_map.1 h; have := rsS_size y; have := hx2 y hy; omega
      · cases h
    generalize rsF xs = P at *
    go_wp2_with fail
    refine (c_deTexts_t _ _ P _ r_i r_s (by omega)).mono ?_
    rintro e w3 ⟨rfl, hB⟩
    replace r_l := RdS.kept r_l hB
    replace r_i := RdS.kept r_i hB
    replace r_s := RdS.kept r_s hB
    replace hA := bthen hA hB
    clear hB
    cases hv : rsB xs
    · clear hv
      go_wp2_with fail
      refine (c_deTexts_t _ _ P _ r_i r_s (by omega)).mono ?_
      rintro e w4 ⟨rfl, hB⟩
      replace r_l := RdS.kept r_l hB
      replace r_i := RdS.kept r_i hB
      replace r_s := RdS.kept r_s hB
      replace hA := bthen hA hB
      clear hB
      go_wp2
      go_ret
      exact ⟨rfl, hA⟩
    · have HB2 : Hid _ := HB.out hv
      clear hv
      go_wp2_with fail
      refine (c_impl_StereotypeOf _ P _ r_i (by omega) (fun s h => by have := HSZ.out s h; omega)).mono ?_
      rintro e w4 ⟨vp, rfl, o_p, hB⟩
      replace r_l := RdS.kept r_l hB
      replace r_i := RdS.kept r_i hB
      replace r_s := RdS.kept r_s hB
      replace hA := bthen hA hB
      clear hB
      have r_p := owns_RdS o_p
      clear o_p
      rw [HB2.out.2] at r_p
      go_wp2_with fail
      refine (c_deTexts_t _ _ xs _ r_p r_l (by omega)).mono ?_
      rintro e w5 ⟨rfl, hB⟩
      replace r_l := RdS.kept r_l hB
      replace r_i := RdS.kept r_i hB
      replace r_s := RdS.kept r_s hB
      replace r_p := RdS.kept r_p hB
      replace hA := bthen hA hB
      clear hB
      go_wp2_with fail
      refine (c_impl_LinesValid _ P _ r_i (by omega) (fun s h => by have := HSZ.out s h; omega)).mono ?_
      rintro e w6 ⟨rfl, hB⟩
      replace r_l := RdS.kept r_l hB
      replace r_i := RdS.kept r_i hB
      replace r_s := RdS.kept r_s hB
      replace r_p := RdS.kept r_p hB
      replace hA := bthen hA hB
      clear hB
      rw [HB2.out.1]
      go_wp2
      go_ret
      exact ⟨rfl, hA⟩

set_option maxRecDepth 100000 in
theorem lifted_FnReadStereotype (os : Os) (started : os.Started) (H : Type) (enc : TypeId × Value → H) :
    ReturnsInHanded {} Tryd.checked os 7 .any (fun w args => (Rows.fnReadStereotypeSpec.pre enc Tryd.prog Tryd.f7 [] false w args ∧ laidMetH Tryd.prog Rows.fnReadStereotypeRow.laid w) ∧ sizedMet enc Tryd.prog Tryd.f7 (OpenSpec.ofChange Rows.fnReadStereotypeSpec) false w args)
      (Rows.fnReadStereotypeSpec.post enc Tryd.prog Tryd.f7 false true false false) := by
  refine returnsInHanded_of_change_and (C := Tryd.checked) (X := fun w _ => laidMetH Tryd.prog Rows.fnReadStereotypeRow.laid w) (fun _ _ _ hh h => h.of_heap hh) own started (by kernel_rfl) Tryd.func7
    (ChangeSpec.witness_shaped (enc := enc) (C := Tryd.checked) (os := os) (X := fun w _ => laidMetH Tryd.prog Rows.fnReadStereotypeRow.laid w) false (World.laidAll Tryd.prog os Rows.fnReadStereotypeRow.laid) #[.slice none 0 0] 8 (World.laidAll_os _ _ _)
      (World.shaped_of_ZipB (by kernel_rfl) (by kernel_rfl)) (by kernel_rfl) (by kernel_rfl) (by kernel_rfl) (by rw [MakeChecks.laidMetH_plain _ _ _ (by kernel_rfl)]; exact laidMet_laidAll _ (by kernel_rfl) (by kernel_rfl))) ?_
  intro W base args ds gs before hval0 hW _ _ hL _
  have hval : ∀ (j : Nat) t v, Tryd.f7.params[j]? = some t → args[j]? = some v → Value.okWide Tryd.prog W .any base t v := hval0
  have hW' := hW
  obtain ⟨p, q, hA0, hV, rfl, hfz, hnd⟩ := hW
  have hA : DataW.TrodAll enc Tryd.prog W 0 (fun _ => true) true Tryd.f7.params.toList args.toList ds p := hA0
  rw [Tryd.params7] at hA hval
  obtain ⟨v0, vs0, d0, ds0, p0, q0, hargs, rfl, rfl, h0, r0⟩ := trodAll_cons hA
  obtain ⟨rfl, rfl, rfl⟩ := trodAll_nil r0
  obtain rfl : args = #[v0] := by cases args; simp_all
  obtain ⟨rfl, rfl⟩ := trodVars_none hV
  obtain ⟨l0, w0⟩ := open_bytes (hval 0 22 v0 rfl rfl) h0
  refine (walk_FnReadStereotype v0 l0 w0).mono fun e W' ⟨he, hg⟩ => ?_
  subst he
  exact ⟨_, rfl, law_post laidOut hW' rfl (by kernel_rfl) rfl Tryd.underlying4 rfl rfl rfl rfl hg⟩
theorem factA_FnReadStereotype : factsA Tryd.prog 7 Tryd.f7 Rows.fnReadStereotypeSpec Rows.fnReadStereotypeRow = true := by kernel_rfl
theorem fact9_FnReadStereotype : (Rows.fnReadStereotypeRow.inPlace == Tryd.prog.inPlace 7) = true := by kernel_rfl
theorem fact10_FnReadStereotype : (Rows.fnReadStereotypeRow.unfollowed == Tryd.prog.unfollowed 7) = true := by kernel_rfl
theorem fact11_FnReadStereotype : (Rows.fnReadStereotypeRow.recurses == Tryd.prog.recurses 7) = true := by kernel_rfl
theorem fact12_FnReadStereotype : (Rows.fnReadStereotypeRow.named == Tryd.prog.varsNamed 7) = true := by kernel_rfl
theorem factB_FnReadStereotype : factsB Tryd.prog 7 Tryd.f7 Rows.fnReadStereotypeSpec Rows.fnReadStereotypeRow = true := by kernel_rfl
theorem factN_FnReadStereotype : Tryd.prog.funcNamed Rows.fnReadStereotypeRow.func = some 7 := by kernel_rfl
theorem proved_FnReadStereotype : Rows.FnReadStereotypeSaid :=
  OpenClaim.holds_of_wide 7 Tryd.f7 rfl rfl rfl rfl rfl rfl rfl ⟨rfl, rfl, rfl, rfl, rfl⟩ rfl rfl rfl rfl rfl factN_FnReadStereotype Tryd.func7 (closed_of factA_FnReadStereotype fact9_FnReadStereotype fact10_FnReadStereotype fact11_FnReadStereotype fact12_FnReadStereotype factB_FnReadStereotype rfl rfl rfl)
    (of_decide_eq_true (by kernel_rfl)) (by unfold Func.isWrapper; first | (rw [if_pos (by decide +kernel)]; kernel_rfl) | (rw [if_neg (by decide +kernel)]; exact ⟨rfl, rfl⟩))
    (fun os started H enc _ => lifted_FnReadStereotype os started H enc)
theorem card_FnReadStereotype : Rows.FnReadStereotypeCardSaid :=
  Claim7.holds_tied_plain_at .later [] [.data, .pinned] true (true, "bc6ca8dfee119a1eb64999733c4ff5f625e0ee3f9493a39b5d121a8fe50f1854") true
    proved_FnReadStereotype (fun _ h => by cases h) (by kernel_rfl) (fun _ h => by cases h) fnReadStereotype_row_tie rfl ⟨rfl, rfl⟩ (by kernel_rfl) rfl
    (fun f fn hf hfn => by
      obtain rfl : f = 7 := Option.some.inj (factN_FnReadStereotype.symm.trans hf) |>.symm
      obtain rfl : fn = Tryd.f7 := (Option.some.inj (Tryd.func7.symm.trans hfn)).symm
      exact ⟨by kernel_rfl, fun j t ht => by
        rw [Tryd.params7] at ht
        have hm : t ∈ [22] := by simpa using Array.mem_of_getElem? ht
        have hall : ([22].all fun u => !Tryd.prog.wantsStandIn u) = true := by kernel_rfl
        exact (show Tryd.prog.wantsStandIn t = false by simpa using List.all_eq_true.1 hall t hm)⟩)
    (by kernel_rfl)

end Go.Proofs.YthpchphncelkpaaDoor
