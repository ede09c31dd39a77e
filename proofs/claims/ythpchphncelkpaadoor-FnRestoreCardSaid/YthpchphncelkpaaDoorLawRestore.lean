/- FnRestore: a column that is restored is shortened to the same strings again. The tables that the card lists are tied to the program's text by the given tie. -/
import Derived.Test.YthpchphncelkpaaDoorRest2
import Derived.Test.YthpchphncelkpaaDoorRestP2
import Derived.Test.YthpchphncelkpaaDoorDrawRe
import Derived.Test.YthpchphncelkpaaDoorDeT
import Derived.Test.YthpchphncelkpaaDoorTie
import Derived.Test.YthpchphncelkpaaDoorCards
import Derived.LaidMore
import Derived.Lay
import Derived.LaidSub
import Derived.MakeChecks
import Derived.Stop.Joined
import Derived.SevenTiedAt
namespace Go.Proofs.YthpchphncelkpaaDoor
set_option linter.unusedVariables false
open Go.ChangeShapes Go.WideShapes Go.ChangeAt Go.RowKit

set_option maxHeartbeats 4000000 in
set_option maxRecDepth 100000 in
theorem walk_FnRestore (v : Value) (cs : List Int) {w : World} (hw : RdL w v (cs.map (Value.int .u8)) ∧ cs.length ≤ 9223372036854775807 ∧ (∀ n ∈ cs, (Lit.int .u8 n).wf = true) ∧ CapOk v) :
    Calls Tryd.prog 5 #[v] w fun e w' => e = .returned (.bool true) ∧ Below w.heap.size w w' := by
  obtain ⟨hR, hlen, hwf, hcap⟩ := hw
  have hR0 := hR
  obtain ⟨a, cap, rfl, hR1⟩ := hR0
  clear hR1
  simp only [List.length_map] at hR hcap ⊢
  by_cases hbig : 1048576 < cs.length
  · clear hR hcap hwf
    go_enter Tryd.func5, Tryd.ntmps5
    go_wp2
    go_ret
    exact ⟨rfl, Below.refl _ _⟩
  · go_enter Tryd.func5, Tryd.ntmps5
    go_wp2_with fail
    refine (c_DrawRestoreColumn _ cs w hR (by omega) hwf hcap).mono ?_
    rintro e w0 ⟨vl, xs, rfl, o_l, hx1, hx2, hA⟩
    clear hR hwf hcap
    have r_l := owns_RdS o_l
    clear o_l
    obtain ⟨al, cl, rfl⟩ := RdS_form r_l
    go_wp2_with fail
    refine (c_impl_RestoreColumn _ xs _ r_l (by omega) (fun s h => by have := hx2 s h; omega)).mono ?_
    rintro e w1 ⟨vp, rfl, o_p, hB⟩
    replace r_l := RdS.kept r_l hB
    replace hA := bthen hA hB
    clear hB
    have r_p := owns_RdS o_p
    clear o_p
    go_wp2_with fail
    refine (c_spec_RestoreColumn _ xs _ r_l (by omega) (fun s h => by have := hx2 s h; omega)).mono ?_
    rintro e w2 ⟨vs, rfl, o_s, hB⟩
    replace r_l := RdS.kept r_l hB
    replace r_p := RdS.kept r_p hB
    replace hA := bthen hA hB
    clear hB
    have r_s := owns_RdS o_s
    clear o_s
    have hPl := resF_len xs
    have HG : Hid (0 < (resF xs).length → (resF xs).length = xs.length ∧ shorF (resF xs) = xs) := fun h => by
      have hc : shorF (restL [] xs) = xs := by
        by_cases hc : shorF (restL [] xs) = xs
        · exact hc
        · rw [resF_ne hc] at h; simp at h
      rw [resF_eq hc]
      exact ⟨restL_len [] xs, hc⟩
    have HSZ : Hid (∀ s ∈ resF xs, s.size ≤ 1048576) := fun s h => by
      unfold resF at h
      split at h
      · have := restL_sizes hx2 s h; omega
      · cases h
    generalize hP : resF xs = P at *
    have HPE : Hid (resF xs = P) := hP
    clear hP
    obtain ⟨ap, cp, rfl⟩ := RdS_form r_p
    go_wp2_with fail
    refine (c_deTexts_t _ _ P _ r_p r_s (by omega)).mono ?_
    rintro e w3 ⟨rfl, hB⟩
    replace r_l := RdS.kept r_l hB
    replace r_p := RdS.kept r_p hB
    replace r_s := RdS.kept r_s hB
    replace hA := bthen hA hB
    clear hB
    by_cases h0 : 0 < P.length
    · have h00 : ((P.length : Int) == 0) = false := beq_eq_false_iff_ne.2 (by omega)
      have HG2 : Hid _ := HG.out h0
      have hq : ((P.length : Int) == (xs.length : Int)) = true := beq_iff_eq.2 (by have := HG2.out.1; omega)
      clear r_s
      go_wp2_with fail
      refine (c_impl_ShortenColumn _ P _ r_p (by omega) (fun s h => by have := HSZ.out s h; omega)).mono ?_
      rintro e w4 ⟨vb, rfl, o_b, hB⟩
      replace r_l := RdS.kept r_l hB
      replace r_p := RdS.kept r_p hB
      replace hA := bthen hA hB
      clear hB
      have r_b := owns_RdS o_b
      clear o_b
      rw [HG2.out.2] at r_b
      go_wp2_with fail
      refine (c_deTexts_t _ _ xs _ r_b r_l (by omega)).mono ?_
      rintro e w5 ⟨rfl, hB⟩
      replace r_l := RdS.kept r_l hB
      replace r_p := RdS.kept r_p hB
      replace r_b := RdS.kept r_b hB
      replace hA := bthen hA hB
      clear hB
      go_wp2
      go_ret
      exact ⟨rfl, hA⟩
    · have h00 : ((P.length : Int) == 0) = true := beq_iff_eq.2 (by omega)
      go_wp2_with fail
      refine (c_spec_RestoreColumn _ xs _ r_l (by omega) (fun s h => by have := hx2 s h; omega)).mono ?_
      rintro e w4 ⟨vs2, rfl, o_s2, hB⟩
      replace r_l := RdS.kept r_l hB
      replace r_p := RdS.kept r_p hB
      replace r_s := RdS.kept r_s hB
      replace hA := bthen hA hB
      clear hB
      have r_s2 := owns_RdS o_s2
      clear o_s2
      rw [HPE.out] at r_s2
      go_wp2_with fail
      refine (c_deTexts_t _ _ P _ r_p r_s2 (by omega)).mono ?_
      rintro e w5 ⟨rfl, hB⟩
      replace r_l := RdS.kept r_l hB
      replace r_p := RdS.kept r_p hB
      replace r_s := RdS.kept r_s hB
      replace r_s2 := RdS.kept r_s2 hB
      replace hA := bthen hA hB
      clear hB
      go_wp2
      go_ret
      exact ⟨rfl, hA⟩

set_option maxRecDepth 100000 in
theorem lifted_FnRestore (os : Os) (started : os.Started) (H : Type) (enc : TypeId × Value → H) :
    ReturnsInHanded {} Tryd.checked os 5 .any (fun w args => (Rows.fnRestoreSpec.pre enc Tryd.prog Tryd.f5 [] false w args ∧ laidMetH Tryd.prog Rows.fnRestoreRow.laid w) ∧ sizedMet enc Tryd.prog Tryd.f5 (OpenSpec.ofChange Rows.fnRestoreSpec) false w args)
      (Rows.fnRestoreSpec.post enc Tryd.prog Tryd.f5 false true false false) := by
  refine returnsInHanded_of_change_and (C := Tryd.checked) (X := fun w _ => laidMetH Tryd.prog Rows.fnRestoreRow.laid w) (fun _ _ _ hh h => h.of_heap hh) own started (by kernel_rfl) Tryd.func5
    (ChangeSpec.witness_shaped (enc := enc) (C := Tryd.checked) (os := os) (X := fun w _ => laidMetH Tryd.prog Rows.fnRestoreRow.laid w) false (World.laidAll Tryd.prog os Rows.fnRestoreRow.laid) #[.slice none 0 0] 8 (World.laidAll_os _ _ _)
      (World.shaped_of_ZipB (by kernel_rfl) (by kernel_rfl)) (by kernel_rfl) (by kernel_rfl) (by kernel_rfl) (by rw [MakeChecks.laidMetH_plain _ _ _ (by kernel_rfl)]; exact laidMet_laidAll _ (by kernel_rfl) (by kernel_rfl))) ?_
  intro W base args ds gs before hval0 hW _ _ hL _
  have hval : ∀ (j : Nat) t v, Tryd.f5.params[j]? = some t → args[j]? = some v → Value.okWide Tryd.prog W .any base t v := hval0
  have hW' := hW
  obtain ⟨p, q, hA0, hV, rfl, hfz, hnd⟩ := hW
  have hA : DataW.TrodAll enc Tryd.prog W 0 (fun _ => true) true Tryd.f5.params.toList args.toList ds p := hA0
  rw [Tryd.params5] at hA hval
  obtain ⟨v0, vs0, d0, ds0, p0, q0, hargs, rfl, rfl, h0, r0⟩ := trodAll_cons hA
  obtain ⟨rfl, rfl, rfl⟩ := trodAll_nil r0
  obtain rfl : args = #[v0] := by cases args; simp_all
  obtain ⟨rfl, rfl⟩ := trodVars_none hV
  obtain ⟨l0, w0⟩ := open_bytes (hval 0 22 v0 rfl rfl) h0
  refine (walk_FnRestore v0 l0 w0).mono fun e W' ⟨he, hg⟩ => ?_
  subst he
  exact ⟨_, rfl, law_post laidOut hW' rfl (by kernel_rfl) rfl Tryd.underlying4 rfl rfl rfl rfl hg⟩
theorem factA_FnRestore : factsA Tryd.prog 5 Tryd.f5 Rows.fnRestoreSpec Rows.fnRestoreRow = true := by kernel_rfl
theorem fact9_FnRestore : (Rows.fnRestoreRow.inPlace == Tryd.prog.inPlace 5) = true := by kernel_rfl
theorem fact10_FnRestore : (Rows.fnRestoreRow.unfollowed == Tryd.prog.unfollowed 5) = true := by kernel_rfl
theorem fact11_FnRestore : (Rows.fnRestoreRow.recurses == Tryd.prog.recurses 5) = true := by kernel_rfl
theorem fact12_FnRestore : (Rows.fnRestoreRow.named == Tryd.prog.varsNamed 5) = true := by kernel_rfl
theorem factB_FnRestore : factsB Tryd.prog 5 Tryd.f5 Rows.fnRestoreSpec Rows.fnRestoreRow = true := by kernel_rfl
theorem factN_FnRestore : Tryd.prog.funcNamed Rows.fnRestoreRow.func = some 5 := by kernel_rfl
theorem proved_FnRestore : Rows.FnRestoreSaid :=
  OpenClaim.holds_of_wide 5 Tryd.f5 rfl rfl rfl rfl rfl rfl rfl ⟨rfl, rfl, rfl, rfl, rfl⟩ rfl rfl rfl rfl rfl factN_FnRestore Tryd.func5 (closed_of factA_FnRestore fact9_FnRestore fact10_FnRestore fact11_FnRestore fact12_FnRestore factB_FnRestore rfl rfl rfl)
    (of_decide_eq_true (by kernel_rfl)) (by unfold Func.isWrapper; first | (rw [if_pos (by decide +kernel)]; kernel_rfl) | (rw [if_neg (by decide +kernel)]; exact ⟨rfl, rfl⟩))
    (fun os started H enc _ => lifted_FnRestore os started H enc)
theorem card_FnRestore : Rows.FnRestoreCardSaid :=
  Claim7.holds_tied_plain_at .later [] [.data, .pinned] true (true, "bc6ca8dfee119a1eb64999733c4ff5f625e0ee3f9493a39b5d121a8fe50f1854") true
    proved_FnRestore (fun _ h => by cases h) (by kernel_rfl) (fun _ h => by cases h) fnRestore_row_tie rfl ⟨rfl, rfl⟩ (by kernel_rfl) rfl
    (fun f fn hf hfn => by
      obtain rfl : f = 5 := Option.some.inj (factN_FnRestore.symm.trans hf) |>.symm
      obtain rfl : fn = Tryd.f5 := (Option.some.inj (Tryd.func5.symm.trans hfn)).symm
      exact ⟨by kernel_rfl, fun j t ht => by
        rw [Tryd.params5] at ht
        have hm : t ∈ [22] := by simpa using Array.mem_of_getElem? ht
        have hall : ([22].all fun u => !Tryd.prog.wantsStandIn u) = true := by kernel_rfl
        exact (show Tryd.prog.wantsStandIn t = false by simpa using List.all_eq_true.1 hall t hm)⟩)
    (by kernel_rfl)

end Go.Proofs.YthpchphncelkpaaDoor
