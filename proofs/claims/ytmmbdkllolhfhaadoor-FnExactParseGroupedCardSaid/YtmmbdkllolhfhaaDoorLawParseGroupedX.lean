/- FnExactParseGrouped: the program's ParseGrouped returns what the reference's returns, for all arguments. The tables that the card lists are tied to the program's text by the given tie. No condition. -/
import Derived.Test.YtmmbdkllolhfhaaDoorNum0
import Derived.Test.YtmmbdkllolhfhaaDoorTie
import Derived.Test.YtmmbdkllolhfhaaDoorCards
import Derived.LaidMore
import Derived.Lay
import Derived.LaidSub
import Derived.MakeChecks
import Derived.Stop.Joined
import Derived.SevenTiedAt
namespace Go.Proofs.YtmmbdkllolhfhaaDoor
set_option linter.unusedVariables false
open Go.ChangeShapes Go.WideShapes Go.ChangeAt Go.RowKit

set_option maxHeartbeats 1000000 in
set_option maxRecDepth 100000 in
theorem walk_FnExactParseGrouped (s : ByteArray) {w : World} (hw : s.size ≤ 9223372036854775807) (htab : TabW w) (herr : ErrW w) (hmax : MaxW w) :
    Calls Tryd.prog 5 #[.string s] w fun e w' => e = .returned (.bool true) ∧ Below w.heap.size w w' := by
  by_cases hbig : 1048576 < s.size
  · go_enter Tryd.func5, Tryd.ntmps5
    go_wp2
    go_ret
    exact ⟨rfl, Below.refl _ _⟩
  · have hc1 := fun W => c_spec_ParseGrouped s _ (IsS.self s) W (by omega)
    have hc2 := fun W (hB : Below w.heap.size w W) => c_impl_ParseGrouped s _ (IsS.self s) W (htab.below hB) (herr.below hB) (hmax.below hB) (by omega)
    have H1 := Lib.hid hc1
    have H2 := Lib.hid hc2
    clear hc1 hc2 htab herr hmax
    unfold PgRet at H1 H2
    obtain ⟨v, hv⟩ : ∃ v, (pgP s.data.toList).getD 0 = v := ⟨_, rfl⟩
    obtain ⟨b, hb⟩ : ∃ b, (pgP s.data.toList).isSome = b := ⟨_, rfl⟩
    rw [hv, hb] at H1 H2
    clear hv hb
    go_enter Tryd.func5, Tryd.ntmps5
    go_wp2_with fail
    refine (H1.out _).mono ?_
    rintro e w1 ⟨rfl, hB1⟩
    go_wp2_with fail
    refine (H2.out _ hB1).mono ?_
    rintro e w2 ⟨rfl, hB2⟩
    have hA := bthen hB1 hB2
    clear hB1 hB2
    go_wp2
    go_ret
    exact ⟨rfl, hA⟩

set_option maxRecDepth 100000 in
theorem lifted_FnExactParseGrouped (os : Os) (started : os.Started) (H : Type) (enc : TypeId × Value → H) :
    ReturnsInHanded {} Tryd.checked os 5 .any (fun w args => (Rows.fnExactParseGroupedSpec.pre enc Tryd.prog Tryd.f5 [] false w args ∧ laidMetH Tryd.prog Rows.fnExactParseGroupedRow.laid w) ∧ sizedMet enc Tryd.prog Tryd.f5 (OpenSpec.ofChange Rows.fnExactParseGroupedSpec) false w args)
      (Rows.fnExactParseGroupedSpec.post enc Tryd.prog Tryd.f5 false true false false) := by
  refine handed_shaped (C := Tryd.checked) (X := fun w _ => laidMetH Tryd.prog Rows.fnExactParseGroupedRow.laid w) (fun _ _ _ hh h => h.of_heap hh) own started (by kernel_rfl) Tryd.func5
    (ChangeSpec.witness_shaped (enc := enc) (C := Tryd.checked) (os := os) (X := fun w _ => laidMetH Tryd.prog Rows.fnExactParseGroupedRow.laid w) false (World.laidAll Tryd.prog os Rows.fnExactParseGroupedRow.laid) #[.string ByteArray.empty] 8 (World.laidAll_os _ _ _)
      (World.shaped_of_ZipB (by kernel_rfl) (by kernel_rfl)) (by kernel_rfl) (by kernel_rfl) (by kernel_rfl) (by rw [MakeChecks.laidMetH_plain _ _ _ (by kernel_rfl)]; exact laidMet_laidAll _ (by kernel_rfl) (by kernel_rfl))) ?_
  intro W base args ds gs before hval0 hW hL hsh
  have hval : ∀ (j : Nat) t v, Tryd.f5.params[j]? = some t → args[j]? = some v → Value.okWide Tryd.prog W .any base t v := hval0
  have htab : TabW W := TabW.of_laid (by kernel_rfl) hL
  have herr : ErrW W := ErrW.of_laid (by kernel_rfl) hL
  have hmax : MaxW W := MaxW.of_shaped hsh
  have hW' := hW
  obtain ⟨p, q, hA0, hV, rfl, hfz, hnd⟩ := hW
  have hA : DataW.TrodAll enc Tryd.prog W 0 (fun _ => true) true Tryd.f5.params.toList args.toList ds p := hA0
  rw [Tryd.params5] at hA hval
  obtain ⟨v0, vs0, d0, ds0, p0, q0, hargs, rfl, rfl, h0, r0⟩ := trodAll_cons hA
  obtain ⟨rfl, rfl, rfl⟩ := trodAll_nil r0
  obtain rfl : args = #[v0] := by cases args; simp_all
  obtain ⟨rfl, rfl⟩ := trodVars_none hV
  obtain ⟨s0, rfl, rfl, rfl, w0⟩ := Go.ChangeMaps.open_string Tryd.underlying9 (hval 0 9 v0 rfl rfl) h0
  refine (walk_FnExactParseGrouped s0 w0 htab herr hmax).mono fun e W' ⟨he, hg⟩ => ?_
  subst he
  exact ⟨_, rfl, law_post laidOut hW' rfl (by kernel_rfl) rfl Tryd.underlying4 rfl rfl rfl rfl hg⟩
theorem factA_FnExactParseGrouped : factsA Tryd.prog 5 Tryd.f5 Rows.fnExactParseGroupedSpec Rows.fnExactParseGroupedRow = true := by kernel_rfl
theorem fact9_FnExactParseGrouped : (Rows.fnExactParseGroupedRow.inPlace == Tryd.prog.inPlace 5) = true := by kernel_rfl
theorem fact10_FnExactParseGrouped : (Rows.fnExactParseGroupedRow.unfollowed == Tryd.prog.unfollowed 5) = true := by kernel_rfl
theorem fact11_FnExactParseGrouped : (Rows.fnExactParseGroupedRow.recurses == Tryd.prog.recurses 5) = true := by kernel_rfl
theorem fact12_FnExactParseGrouped : (Rows.fnExactParseGroupedRow.named == Tryd.prog.varsNamed 5) = true := by kernel_rfl
theorem factB_FnExactParseGrouped : factsB Tryd.prog 5 Tryd.f5 Rows.fnExactParseGroupedSpec Rows.fnExactParseGroupedRow = true := by kernel_rfl
theorem factN_FnExactParseGrouped : Tryd.prog.funcNamed Rows.fnExactParseGroupedRow.func = some 5 := by kernel_rfl
theorem proved_FnExactParseGrouped : Rows.FnExactParseGroupedSaid :=
  OpenClaim.holds_of_wide 5 Tryd.f5 rfl rfl rfl rfl rfl rfl rfl ⟨rfl, rfl, rfl, rfl, rfl⟩ rfl rfl rfl rfl rfl factN_FnExactParseGrouped Tryd.func5 (closed_of factA_FnExactParseGrouped fact9_FnExactParseGrouped fact10_FnExactParseGrouped fact11_FnExactParseGrouped fact12_FnExactParseGrouped factB_FnExactParseGrouped rfl rfl rfl)
    (of_decide_eq_true (by kernel_rfl)) (by unfold Func.isWrapper; first | (rw [if_pos (by decide +kernel)]; kernel_rfl) | (rw [if_neg (by decide +kernel)]; exact ⟨rfl, rfl⟩))
    (fun os started H enc _ => lifted_FnExactParseGrouped os started H enc)
theorem card_FnExactParseGrouped : Rows.FnExactParseGroupedCardSaid :=
  Claim7.holds_tied_plain_at .later [] [.data, .data, .data, .data, .sentinel, .sentinel, .pinned] true (true, "e101157e4c9e637363a8fa74284d0f2a3bfd8b41c096af02f62d292a7d2caf41") true
    proved_FnExactParseGrouped (fun _ h => by cases h) (by kernel_rfl) (fun _ h => by cases h) fnExactParseGrouped_row_tie rfl ⟨rfl, rfl⟩ (by kernel_rfl) rfl
    (fun f fn hf hfn => by
      obtain rfl : f = 5 := Option.some.inj (factN_FnExactParseGrouped.symm.trans hf) |>.symm
      obtain rfl : fn = Tryd.f5 := (Option.some.inj (Tryd.func5.symm.trans hfn)).symm
      exact ⟨by kernel_rfl, fun j t ht => by
        rw [Tryd.params5] at ht
        have hm : t ∈ [9] := by simpa using Array.mem_of_getElem? ht
        have hall : ([9].all fun u => !Tryd.prog.wantsStandIn u) = true := by kernel_rfl
        exact (show Tryd.prog.wantsStandIn t = false by simpa using List.all_eq_true.1 hall t hm)⟩)
    (by kernel_rfl)
end Go.Proofs.YtmmbdkllolhfhaaDoor
