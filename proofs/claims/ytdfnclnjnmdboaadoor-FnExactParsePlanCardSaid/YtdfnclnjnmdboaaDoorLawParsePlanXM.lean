/- FnExactParsePlan: the program's ParsePlan returns what the reference's returns, for all arguments, and what it returns is new memory each time. The tables that the card lists are tied to the program's text by the given tie. No condition. -/
import Derived.Test.YtdfnclnjnmdboaaDoorMParsePlanXSegO
import Derived.Test.YtdfnclnjnmdboaaDoorMParsePlanXPp4
import Derived.Test.YtdfnclnjnmdboaaDoorMParsePlanXNumF
import Derived.Test.YtdfnclnjnmdboaaDoorTie
import Derived.Test.YtdfnclnjnmdboaaDoorCards
import Derived.LaidMore
import Derived.Lay
import Derived.LaidSub
import Derived.MakeChecks
import Derived.Stop.Joined
import Derived.SevenTiedAt
namespace Go.Proofs.YtdfnclnjnmdboaaDoor
set_option linter.unusedVariables false
open Go.ChangeShapes Go.WideShapes Go.ChangeAt Go.RowKit

theorem cntM_small : ∀ {pl : List Seg} {n : Nat}, pl.length ≤ n → (∀ s ∈ pl, s.2.length ≤ 7) → cntM pl ≤ n * 8
  | [], n, _, _ => by simp [cntM]
  | s :: l, n, h, hs => by
    have h1 := hs s (by simp)
    have h2 := cntM_small (pl := l) (n := n - 1) (by simp at h; omega) (fun t ht => hs t (by simp [ht]))
    simp only [List.length_cons] at h
    simp only [cntM]
    omega
theorem planP_small (l : List UInt8) : ((planP l).getD []).length ≤ 61 ∧ ∀ s ∈ (planP l).getD [], s.2.length ≤ 7 := by
  cases h : planP l with
  | none => exact ⟨by simp, fun s hs => by cases hs⟩
  | some p =>
    have := (plO_yes h).2.1
    refine ⟨?_, fun s hs => ?_⟩
    · show p.length ≤ 61
      rw [← this, plO_len]; omega
    · rw [← this] at hs
      exact plO_mem l s hs
set_option maxRecDepth 20000 in
set_option maxHeartbeats 1600000 in
theorem walk_FnExactParsePlan (s : ByteArray) {w : World} (hw : s.size ≤ 9223372036854775807) (htab : TabW w) (herr : ErrW w) (hmax : MaxW w) :
    Calls Tryd.prog 4 #[.string s] w fun e w' => e = .returned (.bool true) ∧ Below w.heap.size w w' := by
  by_cases hbig : 1048576 < s.size
  · go_enter Tryd.func4, Tryd.ntmps4
    go_wp2
    go_ret
    exact ⟨rfl, Below.refl _ _⟩
  · obtain ⟨l, hS⟩ : ∃ l, IsS s l := ⟨_, rfl⟩
    obtain ⟨hm1, hm2⟩ := planP_small l
    obtain ⟨J, hJ⟩ : ∃ J, (planP l).getD [] = J := ⟨_, rfl⟩
    obtain ⟨jb, hjb⟩ : ∃ jb, (planP l).isSome = jb := ⟨_, rfl⟩
    rw [hJ] at hm1 hm2
    have hJM : cntM J ≤ 1048584 := by have := cntM_small hm1 hm2; omega
    have hJl : J.length ≤ 1099511627776 := by omega
    have hJm : ∀ s ∈ J, s.2.length ≤ 1099511627776 := fun s hs => by have := hm2 s hs; omega
    have HS : Hid (∀ W, Calls Tryd.prog 10 #[.string s] W (FreshPB W J jb)) := fun W => by rw [← hJ, ← hjb]; exact c_sParsePlan s l hS W (by omega)
    have HI : Hid (∀ W, Below w.heap.size w W → Calls Tryd.prog 11 #[.string s] W (FreshPB W J jb)) := fun W h => by rw [← hJ, ← hjb]; exact c_ParsePlan s l hS W (htab.below h) (herr.below h) (hmax.below h) (by omega)
    have HEJ : Hid (∀ a b W, RdP W a J → RdP W b J → Calls Tryd.prog 9 #[a, b] W fun e w' => e = .returned (.bool true) ∧ Below W.heap.size W w') := fun a b W h1 h2 => c_eqSegmentS a b J W h1 h2 hJl hJm
    have g1 : ¬ (1048576 : Int) < (s.size : Int) := by omega
    clear hm1 hm2 hJ hjb hJl hJm hS
    go_enter Tryd.func4, Tryd.ntmps4
    go_wp2_with fail
    refine (HS.out _).mono ?_
    rintro e w3 ⟨r0, rfl, o_w, hB⟩
    have hA := hB
    have hs0 := hB.size
    clear hB
    have OW := hidd o_w
    have HB3 := hidd (Below.refl w3.heap.size w3)
    clear o_w
    go_wp2_with fail
    refine (HI.out _ hA).mono ?_
    rintro e w5 ⟨g0, rfl, o_g, hB⟩
    replace hA := bthen hA hB
    replace HB3 := hidd (bthen HB3.out hB)
    have hs45 := hB.size
    clear hB
    go_wp2_with fail
    refine (HEJ.out g0 r0 _ o_g.rd (OW.out.kept HB3.out).rd).mono ?_
    rintro e w6 ⟨rfl, hB⟩
    replace hA := bthen hA hB
    replace HB3 := hidd (bthen HB3.out hB)
    replace o_g := o_g.kept hB
    have hs56 := hB.size
    clear hB
    have OG := hidd o_g.upto
    clear o_g
    go_wp2_with fail
    refine (c_markSegmentS g0 w3.heap.size w6.heap.size J 1 _ OG.out (by omega) (by omega) (by omega) (by omega)).mono ?_
    rintro e w11 ⟨rfl, o_g, hB, hV⟩
    replace hA := hA.trans (hB.mono (by omega))
    replace HB3 := hidd (HB3.out.trans (hB.mono (by omega)))
    have hs1011 := hV.1
    clear hB hV OG
    have hk2 : (0 : Int) ≤ (1 : Int) + (cntM J : Int) := by omega
    go_wp2_with fail
    refine (c_heldSegmentS g0 J 1 _ o_g.rd (by omega) (by omega) (by omega)).mono ?_
    rintro e w12 ⟨rfl, hB⟩
    replace hA := bthen hA hB
    replace HB3 := hidd (bthen HB3.out hB)
    replace o_g := o_g.kept hB
    have hs1112 := hB.size
    clear hB
    go_wp2_with fail
    refine (HI.out _ hA).mono ?_
    rintro e w14 ⟨h0, rfl, o_h, hB⟩
    replace hA := bthen hA hB
    replace HB3 := hidd (bthen HB3.out hB)
    replace o_g := o_g.kept hB
    clear hB
    go_wp2_with fail
    refine (HEJ.out h0 r0 _ o_h.rd (OW.out.kept HB3.out).rd).mono ?_
    rintro e w15 ⟨rfl, hB⟩
    replace hA := bthen hA hB
    replace o_g := o_g.kept hB
    clear hB o_h
    go_wp2_with fail
    refine (c_heldSegmentS g0 J 1 _ o_g.rd (by omega) (by omega) (by omega)).mono ?_
    rintro e w16 ⟨rfl, hB⟩
    replace hA := bthen hA hB
    clear hB o_g
    go_wp2
    go_ret
    exact ⟨rfl, hA⟩

set_option maxRecDepth 100000 in
theorem lifted_FnExactParsePlan (os : Os) (started : os.Started) (H : Type) (enc : TypeId × Value → H) :
    ReturnsInHanded {} Tryd.checked os 4 .any (fun w args => (Rows.fnExactParsePlanSpec.pre enc Tryd.prog Tryd.f4 [] false w args ∧ laidMetH Tryd.prog Rows.fnExactParsePlanRow.laid w) ∧ sizedMet enc Tryd.prog Tryd.f4 (OpenSpec.ofChange Rows.fnExactParsePlanSpec) false w args)
      (Rows.fnExactParsePlanSpec.post enc Tryd.prog Tryd.f4 false true false false) := by
  refine handed_shaped (C := Tryd.checked) (X := fun w _ => laidMetH Tryd.prog Rows.fnExactParsePlanRow.laid w) (fun _ _ _ hh h => h.of_heap hh) own started (by kernel_rfl) Tryd.func4
    (ChangeSpec.witness_shaped (enc := enc) (C := Tryd.checked) (os := os) (X := fun w _ => laidMetH Tryd.prog Rows.fnExactParsePlanRow.laid w) false (World.laidAll Tryd.prog os Rows.fnExactParsePlanRow.laid) #[.string ByteArray.empty] 8 (World.laidAll_os _ _ _)
      (World.shaped_of_ZipB (by kernel_rfl) (by kernel_rfl)) (by kernel_rfl) (by kernel_rfl) (by kernel_rfl) (by rw [MakeChecks.laidMetH_plain _ _ _ (by kernel_rfl)]; exact laidMet_laidAll _ (by kernel_rfl) (by kernel_rfl))) ?_
  intro W base args ds gs before hval0 hW hL hsh
  have hval : ∀ (j : Nat) t v, Tryd.f4.params[j]? = some t → args[j]? = some v → Value.okWide Tryd.prog W .any base t v := hval0
  have htab : TabW W := TabW.of_laid (by kernel_rfl) hL
  have herr : ErrW W := ErrW.of_laid (by kernel_rfl) hL
  have hmax : MaxW W := MaxW.of_shaped hsh
  have hW' := hW
  obtain ⟨p, q, hA0, hV, rfl, hfz, hnd⟩ := hW
  have hA : DataW.TrodAll enc Tryd.prog W 0 (fun _ => true) true Tryd.f4.params.toList args.toList ds p := hA0
  rw [Tryd.params4] at hA hval
  obtain ⟨v0, vs0, d0, ds0, p0, q0, hargs, rfl, rfl, h0, r0⟩ := trodAll_cons hA
  obtain ⟨rfl, rfl, rfl⟩ := trodAll_nil r0
  obtain rfl : args = #[v0] := by cases args; simp_all
  obtain ⟨rfl, rfl⟩ := trodVars_none hV
  obtain ⟨s0, rfl, rfl, rfl, w0⟩ := Go.ChangeMaps.open_string Tryd.underlying9 (hval 0 9 v0 rfl rfl) h0
  refine (walk_FnExactParsePlan s0 w0 htab herr hmax).mono fun e W' ⟨he, hg⟩ => ?_
  subst he
  exact ⟨_, rfl, law_post laidOut hW' rfl (by kernel_rfl) rfl Tryd.underlying4 rfl rfl rfl rfl hg⟩
theorem factA_FnExactParsePlan : factsA Tryd.prog 4 Tryd.f4 Rows.fnExactParsePlanSpec Rows.fnExactParsePlanRow = true := by kernel_rfl
theorem fact9_FnExactParsePlan : (Rows.fnExactParsePlanRow.inPlace == Tryd.prog.inPlace 4) = true := by kernel_rfl
theorem fact10_FnExactParsePlan : (Rows.fnExactParsePlanRow.unfollowed == Tryd.prog.unfollowed 4) = true := by kernel_rfl
theorem fact11_FnExactParsePlan : (Rows.fnExactParsePlanRow.recurses == Tryd.prog.recurses 4) = true := by kernel_rfl
theorem fact12_FnExactParsePlan : (Rows.fnExactParsePlanRow.named == Tryd.prog.varsNamed 4) = true := by kernel_rfl
theorem factB_FnExactParsePlan : factsB Tryd.prog 4 Tryd.f4 Rows.fnExactParsePlanSpec Rows.fnExactParsePlanRow = true := by kernel_rfl
theorem factN_FnExactParsePlan : Tryd.prog.funcNamed Rows.fnExactParsePlanRow.func = some 4 := by kernel_rfl
theorem proved_FnExactParsePlan : Rows.FnExactParsePlanSaid :=
  OpenClaim.holds_of_wide 4 Tryd.f4 rfl rfl rfl rfl rfl rfl rfl ⟨rfl, rfl, rfl, rfl, rfl⟩ rfl rfl rfl rfl rfl factN_FnExactParsePlan Tryd.func4 (closed_of factA_FnExactParsePlan fact9_FnExactParsePlan fact10_FnExactParsePlan fact11_FnExactParsePlan fact12_FnExactParsePlan factB_FnExactParsePlan rfl rfl rfl)
    (of_decide_eq_true (by kernel_rfl)) (by unfold Func.isWrapper; first | (rw [if_pos (by decide +kernel)]; kernel_rfl) | (rw [if_neg (by decide +kernel)]; exact ⟨rfl, rfl⟩))
    (fun os started H enc _ => lifted_FnExactParsePlan os started H enc)
theorem card_FnExactParsePlan : Rows.FnExactParsePlanCardSaid :=
  Claim7.holds_tied_plain_at .later [] [.data, .data, .data, .data, .sentinel, .sentinel, .pinned] true (true, "be86d0ffbee79c72999bee3ef8be5e46fc78f20a0dd7db65c4e8f277f1440da8") true
    proved_FnExactParsePlan (fun _ h => by cases h) (by kernel_rfl) (fun _ h => by cases h) fnExactParsePlan_row_tie rfl ⟨rfl, rfl⟩ (by kernel_rfl) rfl
    (fun f fn hf hfn => by
      obtain rfl : f = 4 := Option.some.inj (factN_FnExactParsePlan.symm.trans hf) |>.symm
      obtain rfl : fn = Tryd.f4 := (Option.some.inj (Tryd.func4.symm.trans hfn)).symm
      exact ⟨by kernel_rfl, fun j t ht => by
        rw [Tryd.params4] at ht
        have hm : t ∈ [9] := by simpa using Array.mem_of_getElem? ht
        have hall : ([9].all fun u => !Tryd.prog.wantsStandIn u) = true := by kernel_rfl
        exact (show Tryd.prog.wantsStandIn t = false by simpa using List.all_eq_true.1 hall t hm)⟩)
    (by kernel_rfl)
end Go.Proofs.YtdfnclnjnmdboaaDoor
