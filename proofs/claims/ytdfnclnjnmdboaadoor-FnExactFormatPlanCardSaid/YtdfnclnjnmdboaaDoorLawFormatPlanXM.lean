/- FnExactFormatPlan: the program's FormatPlan returns what the reference's returns, and keeps its arguments, for all arguments. The table that the card lists is tied to the program's text by the given tie. No condition. -/
import Derived.Test.YtdfnclnjnmdboaaDoorMFormatPlanXSegO
import Derived.Test.YtdfnclnjnmdboaaDoorMFormatPlanXFmt1
import Derived.Test.YtdfnclnjnmdboaaDoorTie
import Derived.Test.YtdfnclnjnmdboaaDoorCards
import Derived.LaidMore
import Derived.Lay
import Derived.LaidSub
import Derived.MakeChecks
import Derived.Stop.Joined
import Derived.SevenTiedAt
namespace Go.Proofs.YtdfnclnjnmdboaaDoor
set_option linter.unusedVariables false
open Go.ChangeShapes Go.WideShapes Go.ChangeAt Go.RowKit

set_option maxRecDepth 20000 in
set_option maxHeartbeats 1600000 in
theorem walk_FnExactFormatPlan (v : Value) (pl : List Seg) {w : World} (hw : RdP w v pl ∧ pl.length ≤ 9223372036854775807 ∧ ∀ s ∈ pl, s.2.length ≤ 9223372036854775807) (htab : TabW w) :
    Calls Tryd.prog 3 #[v] w fun e w' => e = .returned (.bool true) ∧ Below w.heap.size w w' := by
  obtain ⟨hR0, hl0, hp0⟩ := hw
  have HR := hidd hR0
  have HSZ := hidd (c_szSegmentS v pl 1048576 w hR0 hl0 hp0 (by omega) (by omega))
  clear hR0 hl0 hp0
  go_enter Tryd.func3, Tryd.ntmps3
  go_wp2_with fail
  refine HSZ.out.mono ?_
  rintro e w1 ⟨r, rfl, hr1, hcnt, hA⟩
  clear HSZ
  by_cases hr0 : r < 0
  · clear hcnt
    go_wp2
    go_ret
    exact ⟨rfl, hA⟩
  · have hM : cntM pl ≤ 1048576 := by have := hcnt (by omega); omega
    clear hcnt
    have hpl : pl.length ≤ 1048576 := Nat.le_trans (cntM_len pl) hM
    have hmem : ∀ s ∈ pl, s.2.length ≤ 1099511627776 := fun s hs => by have := cntM_mem pl s hs; omega
    have HT : Hid (∀ W, Below w.heap.size w W → Calls Tryd.prog 7 #[v] W (FreshP W pl)) := fun W hW => c_toSegmentS v pl W (HR.out.kept hW) (by omega) hmem
    have HS : Hid (∀ t W, RdP W t pl → Calls Tryd.prog 6 #[t] W (StrB (fplL pl) W)) := fun t W h => c_sFormatPlan t pl W h (by omega) hmem
    have HI : Hid (∀ t W, Below w.heap.size w W → RdP W t pl → Calls Tryd.prog 8 #[t] W (StrB (fplL pl) W)) := fun t W hb h => c_FormatPlan t pl W (htab.below hb) h (by omega) hmem
    have HEP : Hid (∀ a b W, RdP W a pl → RdP W b pl → Calls Tryd.prog 9 #[a, b] W fun e w' => e = .returned (.bool true) ∧ Below W.heap.size W w') := fun a b W h1 h2 => c_eqSegmentS a b pl W h1 h2 (by omega) hmem
    generalize fplL pl = J at *
    clear hmem hpl
    go_wp2_with fail
    refine (HT.out _ hA).mono ?_
    rintro e w2 ⟨t, rfl, o_t, hB⟩
    replace hA := bthen hA hB
    clear hB
    go_wp2_with fail
    refine (HS.out t _ o_t.rd).mono ?_
    rintro e w3 ⟨Y, rfl, hY, hB⟩
    replace hA := bthen hA hB
    clear hB o_t
    go_wp2_with fail
    refine (HT.out _ hA).mono ?_
    rintro e w4 ⟨x0, rfl, o_x, hB⟩
    replace hA := bthen hA hB
    clear hB
    have hx0 := o_x.rd
    clear o_x
    go_wp2_with fail
    refine (HI.out x0 _ hA hx0).mono ?_
    rintro e w5 ⟨Z, rfl, hZ, hB⟩
    obtain rfl : Z = Y := IsS.inj hZ hY
    have hbq := str_beq Z
    replace hA := bthen hA hB
    replace hx0 := hx0.kept hB
    clear hB
    go_wp2_with fail
    refine (HT.out _ hA).mono ?_
    rintro e w7 ⟨y0, rfl, o_y, hB⟩
    replace hA := bthen hA hB
    replace hx0 := hx0.kept hB
    clear hB
    go_wp2_with fail
    refine (HEP.out x0 y0 _ hx0 o_y.rd).mono ?_
    rintro e w8 ⟨rfl, hB⟩
    replace hA := bthen hA hB
    clear hB o_y hx0
    go_wp2
    go_ret
    exact ⟨rfl, hA⟩

theorem door_met_FnExactFormatPlan (os : Os) (args : Array Value) : laidMetH Tryd.prog Rows.fnExactFormatPlanRow.laid ((World.doorLaid Tryd.prog 72 os).forCall (fun _ _ => 0) ⟨#[], args, []⟩).memory :=
  laidMetH_of_parts3 (fuel := 8) (laidMet_of_run' 8 (by kernel_rfl) (by kernel_rfl)) (by kernel_rfl) (by kernel_rfl)
set_option maxRecDepth 100000 in
theorem lifted_FnExactFormatPlan (os : Os) (started : os.Started) (H : Type) (enc : TypeId × Value → H) :
    ReturnsInHanded {} Tryd.checked os 3 .any (fun w args => (Rows.fnExactFormatPlanSpec.pre enc Tryd.prog Tryd.f3 [] false w args ∧ laidMetH Tryd.prog Rows.fnExactFormatPlanRow.laid w) ∧ sizedMet enc Tryd.prog Tryd.f3 (OpenSpec.ofChange Rows.fnExactFormatPlanSpec) false w args)
      (Rows.fnExactFormatPlanSpec.post enc Tryd.prog Tryd.f3 false true false false) := by
  refine returnsInHanded_of_change_and (C := Tryd.checked) (X := fun w _ => laidMetH Tryd.prog Rows.fnExactFormatPlanRow.laid w) (fun _ _ _ hh h => h.of_heap hh) own started (by kernel_rfl) Tryd.func3
    (ChangeSpec.witness_shaped (enc := enc) (C := Tryd.checked) (os := os) (X := fun w _ => laidMetH Tryd.prog Rows.fnExactFormatPlanRow.laid w) false (World.doorLaid Tryd.prog 72 os) #[.slice none 0 0] 8 rfl (World.shaped_of_RefB (by kernel_rfl) (by kernel_rfl)) (by kernel_rfl) (by kernel_rfl) (by kernel_rfl) (door_met_FnExactFormatPlan os _)) ?_
  intro W base args ds gs before hval0 hW _ _ hL _
  have hval : ∀ (j : Nat) t v, Tryd.f3.params[j]? = some t → args[j]? = some v → Value.okWide Tryd.prog W .any base t v := hval0
  have htab : TabW W := TabW.of_laid (by kernel_rfl) hL
  have hW' := hW
  obtain ⟨p, q, hA0, hV, rfl, hfz, hnd⟩ := hW
  have hA : DataW.TrodAll enc Tryd.prog W 0 (fun _ => true) true Tryd.f3.params.toList args.toList ds p := hA0
  rw [Tryd.params3] at hA hval
  obtain ⟨v0, vs0, d0, ds0, p0, q0, hargs, rfl, rfl, h0, r0⟩ := trodAll_cons hA
  obtain ⟨rfl, rfl, rfl⟩ := trodAll_nil r0
  obtain rfl : args = #[v0] := by cases args; simp_all
  obtain ⟨rfl, rfl⟩ := trodVars_none hV
  obtain ⟨l0, w0⟩ := open_segs (hval 0 22 v0 rfl rfl) h0
  refine (walk_FnExactFormatPlan v0 l0 w0 htab).mono fun e W' ⟨he, hg⟩ => ?_
  subst he
  exact ⟨_, rfl, law_post laidOut hW' rfl (by kernel_rfl) rfl Tryd.underlying4 rfl rfl rfl rfl hg⟩
theorem factA_FnExactFormatPlan : factsA Tryd.prog 3 Tryd.f3 Rows.fnExactFormatPlanSpec Rows.fnExactFormatPlanRow = true := by kernel_rfl
theorem fact9_FnExactFormatPlan : (Rows.fnExactFormatPlanRow.inPlace == Tryd.prog.inPlace 3) = true := by kernel_rfl
theorem fact10_FnExactFormatPlan : (Rows.fnExactFormatPlanRow.unfollowed == Tryd.prog.unfollowed 3) = true := by kernel_rfl
theorem fact11_FnExactFormatPlan : (Rows.fnExactFormatPlanRow.recurses == Tryd.prog.recurses 3) = true := by kernel_rfl
theorem fact12_FnExactFormatPlan : (Rows.fnExactFormatPlanRow.named == Tryd.prog.varsNamed 3) = true := by kernel_rfl
theorem factB_FnExactFormatPlan : factsB Tryd.prog 3 Tryd.f3 Rows.fnExactFormatPlanSpec Rows.fnExactFormatPlanRow = true := by kernel_rfl
theorem factN_FnExactFormatPlan : Tryd.prog.funcNamed Rows.fnExactFormatPlanRow.func = some 3 := by kernel_rfl
theorem proved_FnExactFormatPlan : Rows.FnExactFormatPlanSaid :=
  OpenClaim.holds_of_wide 3 Tryd.f3 rfl rfl rfl rfl rfl rfl rfl ⟨rfl, rfl, rfl, rfl, rfl⟩ rfl rfl rfl rfl rfl factN_FnExactFormatPlan Tryd.func3 (closed_of factA_FnExactFormatPlan fact9_FnExactFormatPlan fact10_FnExactFormatPlan fact11_FnExactFormatPlan fact12_FnExactFormatPlan factB_FnExactFormatPlan rfl rfl rfl)
    (of_decide_eq_true (by kernel_rfl)) (by unfold Func.isWrapper; first | (rw [if_pos (by decide +kernel)]; kernel_rfl) | (rw [if_neg (by decide +kernel)]; exact ⟨rfl, rfl⟩))
    (fun os started H enc _ => lifted_FnExactFormatPlan os started H enc)
theorem card_FnExactFormatPlan : Rows.FnExactFormatPlanCardSaid :=
  Claim7.holds_tied_plain_at .later [] [.data, .data, .data] true (true, "be86d0ffbee79c72999bee3ef8be5e46fc78f20a0dd7db65c4e8f277f1440da8") true
    proved_FnExactFormatPlan (fun _ h => by cases h) (by kernel_rfl) (fun _ h => by cases h) fnExactFormatPlan_row_tie rfl ⟨rfl, rfl⟩ (by kernel_rfl) rfl
    (fun f fn hf hfn => by
      obtain rfl : f = 3 := Option.some.inj (factN_FnExactFormatPlan.symm.trans hf) |>.symm
      obtain rfl : fn = Tryd.f3 := (Option.some.inj (Tryd.func3.symm.trans hfn)).symm
      exact ⟨by kernel_rfl, fun j t ht => by
        rw [Tryd.params3] at ht
        have hm : t ∈ [22] := by simpa using Array.mem_of_getElem? ht
        have hall : ([22].all fun u => !Tryd.prog.wantsStandIn u) = true := by kernel_rfl
        exact (show Tryd.prog.wantsStandIn t = false by simpa using List.all_eq_true.1 hall t hm)⟩)
    (by kernel_rfl)
end Go.Proofs.YtdfnclnjnmdboaaDoor
