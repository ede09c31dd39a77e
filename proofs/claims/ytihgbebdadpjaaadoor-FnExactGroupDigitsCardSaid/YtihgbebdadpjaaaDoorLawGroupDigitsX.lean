/- FnExactGroupDigits: the program's GroupDigits returns what the reference's returns, for all arguments. The tables that the card lists are tied to the program's text by the given tie. -/
import Derived.Test.YtihgbebdadpjaaaDoorGrp2
import Derived.Test.YtihgbebdadpjaaaDoorTie
import Derived.Test.YtihgbebdadpjaaaDoorCards
import Derived.Stop.Joined
import Derived.SevenTiedAt
namespace Go.Proofs.YtihgbebdadpjaaaDoor
set_option linter.unusedVariables false
open Go.ChangeShapes Go.WideShapes Go.ChangeAt Go.RowKit

theorem walk_FnExactGroupDigits (n : Int) {w : World} (_ : (Lit.int .i64 n).wf = true) (htab : TabW w) :
    Calls Tryd.prog 3 #[(.int .i64 (n))] w fun e w' => e = .returned (.bool true) ∧ Below w.heap.size w w' := by
  go_enter Tryd.func3, Tryd.ntmps3
  go_wp2_with fail
  refine (c_spec_GroupDigits n w).mono ?_
  rintro e w1 ⟨Y, rfl, hY, hB1⟩
  go_wp2_with fail
  refine (c_impl_GroupDigits n w1 (htab.below hB1)).mono ?_
  rintro e w2 ⟨Z, rfl, hZ, hB2⟩
  obtain rfl : Z = Y := hZ.inj hY
  have hB := bthen hB1 hB2
  clear hB1 hB2 hY hZ htab
  go_wp2
  go_ret
  exact ⟨rfl, hB⟩

theorem door_met_FnExactGroupDigits (os : Os) (args : Array Value) : laidMetH Tryd.prog Rows.fnExactGroupDigitsRow.laid ((World.doorLaid Tryd.prog 24 os).forCall (fun _ _ => 0) ⟨#[], args, []⟩).memory :=
  laidMetH_of_parts3 (fuel := 8) (laidMet_of_run' 8 (by kernel_rfl) (by kernel_rfl)) (by kernel_rfl) (by kernel_rfl)
set_option maxRecDepth 100000 in
theorem lifted_FnExactGroupDigits (os : Os) (started : os.Started) (H : Type) (enc : TypeId × Value → H) :
    ReturnsInHanded {} Tryd.checked os 3 .any (fun w args => (Rows.fnExactGroupDigitsSpec.pre enc Tryd.prog Tryd.f3 [] false w args ∧ laidMetH Tryd.prog Rows.fnExactGroupDigitsRow.laid w) ∧ sizedMet enc Tryd.prog Tryd.f3 (OpenSpec.ofChange Rows.fnExactGroupDigitsSpec) false w args)
      (Rows.fnExactGroupDigitsSpec.post enc Tryd.prog Tryd.f3 false true false false) := by
  refine returnsInHanded_of_change_and (C := Tryd.checked) (X := fun w _ => laidMetH Tryd.prog Rows.fnExactGroupDigitsRow.laid w) (fun _ _ _ hh h => h.of_heap hh) own started (by kernel_rfl) Tryd.func3
    (ChangeSpec.witness_shaped (enc := enc) (C := Tryd.checked) (os := os) (X := fun w _ => laidMetH Tryd.prog Rows.fnExactGroupDigitsRow.laid w) false (World.doorLaid Tryd.prog 24 os) #[.int .i64 0] 8 rfl (World.shaped_of_RefB (by kernel_rfl) (by kernel_rfl)) (by kernel_rfl) (by kernel_rfl) (by kernel_rfl) (door_met_FnExactGroupDigits os _)) ?_
  intro W base args ds gs before hval0 hW _ _ hL _
  have hval : ∀ (j : Nat) t v, Tryd.f3.params[j]? = some t → args[j]? = some v → Value.okWide Tryd.prog W .any base t v := hval0
  have htab : TabW W := TabW.of_laid (by kernel_rfl) hL
  have hW' := hW
  obtain ⟨p, q, hA0, hV, rfl, hfz, hnd⟩ := hW
  have hA : DataW.TrodAll enc Tryd.prog W 0 (fun _ => true) true Tryd.f3.params.toList args.toList ds p := hA0
  rw [Tryd.params3] at hA hval
  obtain ⟨v0, vs0, d0, ds0, p0, q0, hargs, rfl, rfl, h0, r0⟩ := trodAll_cons hA
  obtain ⟨rfl, rfl, rfl⟩ := trodAll_nil r0
  obtain rfl : args = #[v0] := by cases args; simp_all
  obtain ⟨rfl, rfl⟩ := trodVars_none hV
  obtain ⟨a0, rfl, rfl, rfl, w0⟩ := open_int Tryd.underlying3 (hval 0 3 v0 rfl rfl) h0
  refine (walk_FnExactGroupDigits a0 w0 htab).mono fun e W' ⟨he, hg⟩ => ?_
  subst he
  exact ⟨_, rfl, law_post laidOut hW' rfl (by kernel_rfl) rfl Tryd.underlying4 rfl rfl rfl rfl hg⟩
theorem factA_FnExactGroupDigits : factsA Tryd.prog 3 Tryd.f3 Rows.fnExactGroupDigitsSpec Rows.fnExactGroupDigitsRow = true := by kernel_rfl
theorem fact9_FnExactGroupDigits : (Rows.fnExactGroupDigitsRow.inPlace == Tryd.prog.inPlace 3) = true := by kernel_rfl
theorem fact10_FnExactGroupDigits : (Rows.fnExactGroupDigitsRow.unfollowed == Tryd.prog.unfollowed 3) = true := by kernel_rfl
theorem fact11_FnExactGroupDigits : (Rows.fnExactGroupDigitsRow.recurses == Tryd.prog.recurses 3) = true := by kernel_rfl
theorem fact12_FnExactGroupDigits : (Rows.fnExactGroupDigitsRow.named == Tryd.prog.varsNamed 3) = true := by kernel_rfl
theorem factB_FnExactGroupDigits : factsB Tryd.prog 3 Tryd.f3 Rows.fnExactGroupDigitsSpec Rows.fnExactGroupDigitsRow = true := by kernel_rfl
theorem factN_FnExactGroupDigits : Tryd.prog.funcNamed Rows.fnExactGroupDigitsRow.func = some 3 := by kernel_rfl
theorem proved_FnExactGroupDigits : Rows.FnExactGroupDigitsSaid :=
  OpenClaim.holds_of_wide 3 Tryd.f3 rfl rfl rfl rfl rfl rfl rfl ⟨rfl, rfl, rfl, rfl, rfl⟩ rfl rfl rfl rfl rfl factN_FnExactGroupDigits Tryd.func3 (closed_of factA_FnExactGroupDigits fact9_FnExactGroupDigits fact10_FnExactGroupDigits fact11_FnExactGroupDigits fact12_FnExactGroupDigits factB_FnExactGroupDigits rfl rfl rfl)
    (of_decide_eq_true (by kernel_rfl)) (by unfold Func.isWrapper; first | (rw [if_pos (by decide +kernel)]; kernel_rfl) | (rw [if_neg (by decide +kernel)]; exact ⟨rfl, rfl⟩))
    (fun os started H enc _ => lifted_FnExactGroupDigits os started H enc)
theorem card_FnExactGroupDigits : Rows.FnExactGroupDigitsCardSaid :=
  Claim7.holds_tied_plain_at .later [] [.data, .data, .data] true (true, "71f7101b11ee02e8d99db334f21187209fd23a12cbb4b6e53d4d3898accab604") false
    proved_FnExactGroupDigits (fun _ h => by cases h) (by kernel_rfl) (fun _ h => by cases h) fnExactGroupDigits_row_tie rfl ⟨rfl, rfl⟩ (by kernel_rfl) rfl
    (fun f fn hf hfn => by
      obtain rfl : f = 3 := Option.some.inj (factN_FnExactGroupDigits.symm.trans hf) |>.symm
      obtain rfl : fn = Tryd.f3 := (Option.some.inj (Tryd.func3.symm.trans hfn)).symm
      exact ⟨by kernel_rfl, fun j t ht => by
        rw [Tryd.params3] at ht
        have hm : t ∈ [3] := by simpa using Array.mem_of_getElem? ht
        have hall : ([3].all fun u => !Tryd.prog.wantsStandIn u) = true := by kernel_rfl
        exact (show Tryd.prog.wantsStandIn t = false by simpa using List.all_eq_true.1 hall t hm)⟩)
    (by kernel_rfl)
end Go.Proofs.YtihgbebdadpjaaaDoor
