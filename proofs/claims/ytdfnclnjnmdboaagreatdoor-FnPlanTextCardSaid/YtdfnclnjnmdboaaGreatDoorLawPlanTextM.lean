/- FnPlanText: a plan is parsed from its text, and a text that is parsed is that of the parsed plan. The tables that the card lists are tied to the program's text by the given tie. No condition. -/
import Derived.Test.YtdfnclnjnmdboaaGreatDoorMPlanTextDrPp
import Derived.Test.YtdfnclnjnmdboaaGreatDoorMPlanTextPp4
import Derived.Test.YtdfnclnjnmdboaaGreatDoorMPlanTextDeI
import Derived.Test.YtdfnclnjnmdboaaGreatDoorMPlanTextNumF
import Derived.Test.YtdfnclnjnmdboaaGreatDoorTie
import Derived.Test.YtdfnclnjnmdboaaGreatDoorCards
import Derived.LaidMore
import Derived.Lay
import Derived.LaidSub
import Derived.MakeChecks
import Derived.Stop.Joined
import Derived.SevenTiedAt
namespace Go.Proofs.YtdfnclnjnmdboaaGreatDoor
set_option linter.unusedVariables false
open Go.ChangeShapes Go.WideShapes Go.ChangeAt Go.RowKit

theorem planP_small (l : List UInt8) : ((planP l).getD []).length ≤ 61 ∧ ∀ s ∈ (planP l).getD [], s.2.length ≤ 7 := by
  cases h : planP l with
  | none => exact ⟨by simp, fun s hs => by cases hs⟩
  | some p =>
    have := (plO_yes h).2.1
    refine ⟨?_, fun s hs => ?_⟩
    · show p.length ≤ 61
      rw [← this, plO_len]; omega
    · rw [← this] at hs
      exact plO_mem l s hs
set_option maxHeartbeats 4000000 in
set_option maxRecDepth 100000 in
theorem walk_FnPlanText (v1 : Value) (cs : List Int) {w : World} (hw : RdL w v1 (cs.map (Value.int .u8)) ∧ cs.length ≤ 9223372036854775807 ∧ (∀ n ∈ cs, (Lit.int .u8 n).wf = true) ∧ CapOk v1)
    (v2 : Value) (ds : List Int) (hw2 : RdL w v2 (ds.map (Value.int .u8)) ∧ ds.length ≤ 9223372036854775807 ∧ (∀ n ∈ ds, (Lit.int .u8 n).wf = true) ∧ CapOk v2) (htab : TabW w) (herr : ErrW w) (hmax : MaxW w) :
    Calls Tryz.prog 3 #[v1, v2] w fun e w' => e = .returned (.bool true) ∧ Below w.heap.size w w' := by
  obtain ⟨hR, hlen, hwf, hcap⟩ := hw
  obtain ⟨hR2, hlen2, hwf2, hcap2⟩ := hw2
  have hR0 := hR
  obtain ⟨a, cap, rfl, hR1⟩ := hR0
  clear hR1
  have hR0 := hR2
  obtain ⟨a2, cap2, rfl, hR1⟩ := hR0
  clear hR1
  simp only [List.length_map] at hR hcap hR2 hcap2 ⊢
  by_cases hbig : 1048576 < cs.length
  · clear hR hcap hwf hR2 hcap2 hwf2
    go_enter Tryz.func3, Tryz.ntmps3
    go_wp2
    go_ret
    exact ⟨rfl, Below.refl _ _⟩
  by_cases hbig2 : 1048576 < ds.length
  · clear hR hcap hwf hR2 hcap2 hwf2
    go_enter Tryz.func3, Tryz.ntmps3
    go_wp2
    go_ret
    exact ⟨rfl, Below.refl _ _⟩
  have HD2 : Hid (∀ W, Below w.heap.size w W → Calls Tryz.prog 11 #[.slice a2 ds.length cap2] W (DrawTp W)) := fun W h => c_DrawParsePlan _ ds W (hR2.kept h) (by omega) hwf2 hcap2
  have HIF : Hid (∀ u pl W, Below w.heap.size w W → RdP W u pl → pl.length ≤ 1099511627776 → (∀ s ∈ pl, s.2.length ≤ 1099511627776) → Calls Tryz.prog 6 #[u] W (StrB (fplL pl) W)) := fun u pl W hb h h1 h2 => c_FormatPlan u pl W (htab.below hb) h h1 h2
  have HIP : Hid (∀ s l W, Below w.heap.size w W → IsS s l → s.size ≤ 1048576 → Calls Tryz.prog 9 #[.string s] W (FreshPB W ((planP l).getD []) (planP l).isSome)) := fun s l W hb h h1 => c_ParsePlan s l h W (htab.below hb) (herr.below hb) (hmax.below hb) h1
  clear hR2 hcap2 hwf2 htab herr hmax
  -- from a world on, in which the text is drawn
  go_enter Tryz.func3, Tryz.ntmps3
  go_wp2_with fail
  refine (c_DrawFormatPlan _ cs w hR (by omega) hwf hcap).mono ?_
  rintro e w1 ⟨vp, pl, rfl, o_p, hd, hA⟩
  have hpl62 := hd.1
  have HM : Hid (∀ s ∈ pl, s.2.length ≤ 7) := hd.2
  have hrp := o_p.rd
  clear hR hwf hcap o_p hd
  have HPX : Hid (∀ s ∈ pl, s.2.length ≤ 1099511627776) := fun s hs => by have := HM.out s hs; omega
  go_wp2_with fail
  refine (HIF.out _ pl _ hA hrp (by omega) HPX.out).mono ?_
  rintro e w2 ⟨t, rfl, ht, hB⟩
  replace hA := bthen hA hB
  replace hrp := hrp.kept hB
  clear hB
  go_wp2_with fail
  refine (c_sFormatPlan _ pl _ hrp (by omega) HPX.out).mono ?_
  rintro e w3 ⟨z, rfl, hz, hB⟩
  obtain rfl : z = t := IsS.inj hz ht
  replace hA := bthen hA hB
  replace hrp := hrp.kept hB
  clear hB hz
  have hbq := str_beq z
  have HPV : Hid (∀ W, RdP W vp pl → Calls Tryz.prog 8 #[vp] W fun e w' => e = .returned (.bool (planB pl)) ∧ Below W.heap.size W w') := fun W h => c_impl_PlanValid vp pl W h (by omega) HPX.out
  have hzl := ht.size
  have hfl := fplL_len pl
  cases hv : planB pl
  · rw [hv] at HPV
    have hz0 : z = ⟨#[]⟩ := IsS.inj ht (by have : fplL pl = [] := if_neg (by rw [hv]; decide); rw [this]; rfl)
    subst hz0
    clear hv ht hzl hfl
    go_wp2_with fail
    refine (HPV.out _ hrp).mono ?_
    rintro e w4 ⟨rfl, hB⟩
    replace hA := bthen hA hB
    clear hB hrp HPV
    go_wp2_with fail
    refine (HD2.out _ hA).mono ?_
    rintro e wa ⟨y, rfl, hy, hB⟩
    replace hA := bthen hA hB
    clear hB
    obtain ⟨l, hS⟩ : ∃ l, IsS y l := ⟨_, rfl⟩
    obtain ⟨hm1, hm2⟩ := planP_small l
    have HI := hidd (fun W (hb : Below w.heap.size w W) => HIP.out y l W hb hS (by omega))
    have HSP := hidd (fun W => c_sParsePlan y l hS W (by omega))
    have HFT : Hid ((planP l).isSome = true → fplL ((planP l).getD []) = l) := fun h => by
      cases hp : planP l with
      | none => rw [hp] at h; cases h
      | some q => exact (plO_yes hp).2.2
    have HIS := hidd hS
    obtain ⟨J, hJ⟩ : ∃ J, (planP l).getD [] = J := ⟨_, rfl⟩
    obtain ⟨jb, hjb⟩ : ∃ jb, (planP l).isSome = jb := ⟨_, rfl⟩
    rw [hJ] at hm1 hm2
    rw [hJ, hjb] at HI HSP HFT
    have HJX : Hid (∀ s ∈ J, s.2.length ≤ 1099511627776) := fun s hs => by have := hm2 s hs; omega
    clear hJ hjb hS hm2 HD2 HIP
    go_wp2_with fail
    refine (HI.out _ hA).mono ?_
    rintro e wb ⟨vg, rfl, o_g, hB⟩
    replace hA := bthen hA hB
    have hrg := o_g.rd
    clear hB o_g HI
    go_wp2_with fail
    refine (HSP.out _).mono ?_
    rintro e wc ⟨vw, rfl, o_w, hB⟩
    replace hA := bthen hA hB
    replace hrg := hrg.kept hB
    have hrw := o_w.rd
    clear hB o_w HSP
    go_wp2_with fail
    refine (k_de_plans _ _ J _ hrg hrw (by omega) HJX.out).mono ?_
    rintro e wd ⟨rfl, hB⟩
    replace hA := bthen hA hB
    replace hrg := hrg.kept hB
    clear hB hrw
    cases jb
    · clear hrg HFT
      go_wp2
      go_ret
      exact ⟨rfl, hA⟩
    · have hft := HFT.out rfl
      go_wp2_with fail
      refine (HIF.out _ J _ hA hrg (by omega) HJX.out).mono ?_
      rintro e wf ⟨x, rfl, hx, hB⟩
      rw [hft] at hx
      obtain rfl : x = y := IsS.inj hx HIS.out
      have hbx := str_beq x
      replace hA := bthen hA hB
      clear hB hrg hx hft HFT
      go_wp2
      go_ret
      exact ⟨rfl, hA⟩
  · rw [hv] at HPV
    have hne : z ≠ ⟨#[]⟩ := fun e => (fplL_ne pl).2 hv (by rw [e] at ht; exact ht.symm)
    have hbn := (emp_no hne).1
    have hpp : planP (fplL pl) = some pl := planP_iff.2 ⟨hv, (fplL_yes hv).symm⟩
    have HBK := hidd (fun W (hb : Below w.heap.size w W) => HIP.out z _ W hb ht (by omega))
    rw [hpp] at HBK
    clear hv ht hzl hfl hpp
    go_wp2_with fail
    refine (HPV.out _ hrp).mono ?_
    rintro e w4 ⟨rfl, hB⟩
    replace hA := bthen hA hB
    replace hrp := hrp.kept hB
    clear hB HPV
    go_wp2_with fail
    refine (HBK.out _ hA).mono ?_
    rintro e w5 ⟨vb, rfl, o_b, hB⟩
    replace hA := bthen hA hB
    replace hrp := hrp.kept hB
    have hrb := o_b.rd
    clear hB o_b HBK
    go_wp2_with fail
    refine (k_de_plans _ _ pl _ hrb hrp (by omega) HPX.out).mono ?_
    rintro e w6 ⟨rfl, hB⟩
    replace hA := bthen hA hB
    clear hB hrb hrp
    go_wp2_with fail
    refine (HD2.out _ hA).mono ?_
    rintro e wa ⟨y, rfl, hy, hB⟩
    replace hA := bthen hA hB
    clear hB
    obtain ⟨l, hS⟩ : ∃ l, IsS y l := ⟨_, rfl⟩
    obtain ⟨hm1, hm2⟩ := planP_small l
    have HI := hidd (fun W (hb : Below w.heap.size w W) => HIP.out y l W hb hS (by omega))
    have HSP := hidd (fun W => c_sParsePlan y l hS W (by omega))
    have HFT : Hid ((planP l).isSome = true → fplL ((planP l).getD []) = l) := fun h => by
      cases hp : planP l with
      | none => rw [hp] at h; cases h
      | some q => exact (plO_yes hp).2.2
    have HIS := hidd hS
    obtain ⟨J, hJ⟩ : ∃ J, (planP l).getD [] = J := ⟨_, rfl⟩
    obtain ⟨jb, hjb⟩ : ∃ jb, (planP l).isSome = jb := ⟨_, rfl⟩
    rw [hJ] at hm1 hm2
    rw [hJ, hjb] at HI HSP HFT
    have HJX : Hid (∀ s ∈ J, s.2.length ≤ 1099511627776) := fun s hs => by have := hm2 s hs; omega
    clear hJ hjb hS hm2 HD2 HIP
    go_wp2_with fail
    refine (HI.out _ hA).mono ?_
    rintro e wb ⟨vg, rfl, o_g, hB⟩
    replace hA := bthen hA hB
    have hrg := o_g.rd
    clear hB o_g HI
    go_wp2_with fail
    refine (HSP.out _).mono ?_
    rintro e wc ⟨vw, rfl, o_w, hB⟩
    replace hA := bthen hA hB
    replace hrg := hrg.kept hB
    have hrw := o_w.rd
    clear hB o_w HSP
    go_wp2_with fail
    refine (k_de_plans _ _ J _ hrg hrw (by omega) HJX.out).mono ?_
    rintro e wd ⟨rfl, hB⟩
    replace hA := bthen hA hB
    replace hrg := hrg.kept hB
    clear hB hrw
    cases jb
    · clear hrg HFT
      go_wp2
      go_ret
      exact ⟨rfl, hA⟩
    · have hft := HFT.out rfl
      go_wp2_with fail
      refine (HIF.out _ J _ hA hrg (by omega) HJX.out).mono ?_
      rintro e wf ⟨x, rfl, hx, hB⟩
      rw [hft] at hx
      obtain rfl : x = y := IsS.inj hx HIS.out
      have hbx := str_beq x
      replace hA := bthen hA hB
      clear hB hrg hx hft HFT
      go_wp2
      go_ret
      exact ⟨rfl, hA⟩

set_option maxRecDepth 100000 in
theorem lifted_FnPlanText (os : Os) (started : os.Started) (H : Type) (enc : TypeId × Value → H) :
    ReturnsInHanded {} Tryz.checked os 3 .any (fun w args => (Rows.fnPlanTextSpec.pre enc Tryz.prog Tryz.f3 [] false w args ∧ laidMetH Tryz.prog Rows.fnPlanTextRow.laid w) ∧ sizedMet enc Tryz.prog Tryz.f3 (OpenSpec.ofChange Rows.fnPlanTextSpec) false w args)
      (Rows.fnPlanTextSpec.post enc Tryz.prog Tryz.f3 false true false false) := by
  refine handed_shaped (C := Tryz.checked) (X := fun w _ => laidMetH Tryz.prog Rows.fnPlanTextRow.laid w) (fun _ _ _ hh h => h.of_heap hh) own started (by kernel_rfl) Tryz.func3
    (ChangeSpec.witness_shaped (enc := enc) (C := Tryz.checked) (os := os) (X := fun w _ => laidMetH Tryz.prog Rows.fnPlanTextRow.laid w) false (World.laidAll Tryz.prog os Rows.fnPlanTextRow.laid) #[.slice none 0 0, .slice none 0 0] 8 (World.laidAll_os _ _ _)
      (World.shaped_of_ZipB (by kernel_rfl) (by kernel_rfl)) (by kernel_rfl) (by kernel_rfl) (by kernel_rfl) (by rw [MakeChecks.laidMetH_plain _ _ _ (by kernel_rfl)]; exact laidMet_laidAll _ (by kernel_rfl) (by kernel_rfl))) ?_
  intro W base args ds gs before hval0 hW hL hsh
  have hval : ∀ (j : Nat) t v, Tryz.f3.params[j]? = some t → args[j]? = some v → Value.okWide Tryz.prog W .any base t v := hval0
  have htab : TabW W := TabW.of_laid (by kernel_rfl) hL
  have herr : ErrW W := ErrW.of_laid (by kernel_rfl) hL
  have hmax : MaxW W := MaxW.of_shaped hsh
  have hW' := hW
  obtain ⟨p, q, hA0, hV, rfl, hfz, hnd⟩ := hW
  have hA : DataW.TrodAll enc Tryz.prog W 0 (fun _ => true) true Tryz.f3.params.toList args.toList ds p := hA0
  rw [Tryz.params3] at hA hval
  obtain ⟨v0, vs0, d0, ds0, p0, q0, hargs, rfl, rfl, h0, r0⟩ := trodAll_cons hA
  obtain ⟨v1, vs1, d1, ds1, p1, q1, rfl, rfl, rfl, h1, r1⟩ := trodAll_cons r0
  obtain ⟨rfl, rfl, rfl⟩ := trodAll_nil r1
  obtain rfl : args = #[v0, v1] := by cases args; simp_all
  obtain ⟨rfl, rfl⟩ := trodVars_none hV
  obtain ⟨l0, w0⟩ := open_bytes (hval 0 22 v0 rfl rfl) h0
  obtain ⟨l1, w1⟩ := open_bytes (hval 1 22 v1 rfl rfl) h1
  refine (walk_FnPlanText v0 l0 w0 v1 l1 w1 htab herr hmax).mono fun e W' ⟨he, hg⟩ => ?_
  subst he
  exact ⟨_, rfl, law_post laidOut hW' rfl (by kernel_rfl) rfl Tryz.underlying4 rfl rfl rfl rfl hg⟩
theorem factA_FnPlanText : factsA Tryz.prog 3 Tryz.f3 Rows.fnPlanTextSpec Rows.fnPlanTextRow = true := by kernel_rfl
theorem fact9_FnPlanText : (Rows.fnPlanTextRow.inPlace == Tryz.prog.inPlace 3) = true := by kernel_rfl
theorem fact10_FnPlanText : (Rows.fnPlanTextRow.unfollowed == Tryz.prog.unfollowed 3) = true := by kernel_rfl
theorem fact11_FnPlanText : (Rows.fnPlanTextRow.recurses == Tryz.prog.recurses 3) = true := by kernel_rfl
theorem fact12_FnPlanText : (Rows.fnPlanTextRow.named == Tryz.prog.varsNamed 3) = true := by kernel_rfl
theorem factB_FnPlanText : factsB Tryz.prog 3 Tryz.f3 Rows.fnPlanTextSpec Rows.fnPlanTextRow = true := by kernel_rfl
theorem factN_FnPlanText : Tryz.prog.funcNamed Rows.fnPlanTextRow.func = some 3 := by kernel_rfl
theorem proved_FnPlanText : Rows.FnPlanTextSaid :=
  OpenClaim.holds_of_wide 3 Tryz.f3 rfl rfl rfl rfl rfl rfl rfl ⟨rfl, rfl, rfl, rfl, rfl⟩ rfl rfl rfl rfl rfl factN_FnPlanText Tryz.func3 (closed_of factA_FnPlanText fact9_FnPlanText fact10_FnPlanText fact11_FnPlanText fact12_FnPlanText factB_FnPlanText rfl rfl rfl)
    (of_decide_eq_true (by kernel_rfl)) (by unfold Func.isWrapper; first | (rw [if_pos (by decide +kernel)]; kernel_rfl) | (rw [if_neg (by decide +kernel)]; exact ⟨rfl, rfl⟩))
    (fun os started H enc _ => lifted_FnPlanText os started H enc)
theorem card_FnPlanText : Rows.FnPlanTextCardSaid :=
  Claim7.holds_tied_plain_at .later [] [.data, .data, .data, .data, .sentinel, .sentinel, .pinned] true (true, "ea64c503bda052fc1e57271ce2bf915fed8b91233bed33fc3305e3826b550267") true
    proved_FnPlanText (fun _ h => by cases h) (by kernel_rfl) (fun _ h => by cases h) fnPlanText_row_tie rfl ⟨rfl, rfl⟩ (by kernel_rfl) rfl
    (fun f fn hf hfn => by
      obtain rfl : f = 3 := Option.some.inj (factN_FnPlanText.symm.trans hf) |>.symm
      obtain rfl : fn = Tryz.f3 := (Option.some.inj (Tryz.func3.symm.trans hfn)).symm
      exact ⟨by kernel_rfl, fun j t ht => by
        rw [Tryz.params3] at ht
        have hm : t ∈ [22, 22] := by simpa using Array.mem_of_getElem? ht
        have hall : ([22, 22].all fun u => !Tryz.prog.wantsStandIn u) = true := by kernel_rfl
        exact (show Tryz.prog.wantsStandIn t = false by simpa using List.all_eq_true.1 hall t hm)⟩)
    (by kernel_rfl)
end Go.Proofs.YtdfnclnjnmdboaaGreatDoor
