/- FnReadTable: a table that is read from a text is printed as this text. The tables that the card lists are tied to the program's text by the given tie. No condition. -/
import Derived.Test.YtgjaajfpdajleaaGreatDoorMReadTableRt3
import Derived.Test.YtgjaajfpdajleaaGreatDoorMReadTableNum0
import Derived.Test.YtgjaajfpdajleaaGreatDoorMReadTablePsum2
import Derived.Test.YtgjaajfpdajleaaGreatDoorMReadTableDrawRT
import Derived.Test.YtgjaajfpdajleaaGreatDoorMReadTableDeI
import Derived.Test.YtgjaajfpdajleaaGreatDoorTie
import Derived.Test.YtgjaajfpdajleaaGreatDoorCards
import Derived.LaidMore
import Derived.Lay
import Derived.LaidSub
import Derived.MakeChecks
import Derived.Stop.Joined
import Derived.SevenTiedAt
namespace Go.Proofs.YtgjaajfpdajleaaGreatDoor
set_option linter.unusedVariables false
open Go.ChangeShapes Go.WideShapes Go.ChangeAt Go.RowKit

theorem rdtV_small (r a c : Int) (l : List UInt8) : (rdtV r a c l).length ≤ 60 := by
  unfold rdtV
  by_cases h : rdtB r a c l = true
  · rw [if_pos h]
    exact (tabB_iff (ptV_parts (rt_iff.1 h).1).2).2.1
  · rw [if_neg h]; simp

set_option maxHeartbeats 4000000 in
set_option maxRecDepth 100000 in
theorem walk_FnReadTable (v : Value) (cs : List Int) {w : World} (hw : RdL w v (cs.map (Value.int .u8)) ∧ cs.length ≤ 9223372036854775807 ∧ (∀ n ∈ cs, (Lit.int .u8 n).wf = true) ∧ CapOk v) (htab : TabW w) (herr : ErrW w) (hmax : MaxW w) :
    Calls Tryz.prog 4 #[v] w fun e w' => e = .returned (.bool true) ∧ Below w.heap.size w w' := by
  obtain ⟨hR, hlen, hwf, hcap⟩ := hw
  have hR0 := hR
  obtain ⟨a, cap, rfl, hR1⟩ := hR0
  clear hR1
  have HT : Hid (TabW w ∧ ErrW w ∧ MaxW w) := ⟨htab, herr, hmax⟩
  clear htab herr hmax
  simp only [List.length_map] at hR hcap ⊢
  by_cases hbig : 1048576 < cs.length
  · clear hR hcap hwf
    go_enter Tryz.func4, Tryz.ntmps4
    go_wp2
    go_ret
    exact ⟨rfl, Below.refl _ _⟩
  · go_enter Tryz.func4, Tryz.ntmps4
    go_wp2_with fail
    refine (c_DrawReadTable _ cs w hR (by omega) hwf hcap).mono ?_
    rintro e w1 ⟨r, a, c, Y, rfl, hY, hA⟩
    clear hR hwf hcap
    obtain ⟨l, hS⟩ : ∃ l, IsS Y l := ⟨_, rfl⟩
    have hbx := Box3.new w1 r a c 27
    replace hA := hA.alloc hA.size (.cells #[(.int .i64 (r)), (.int .i64 (a)), (.int .i64 (c))] 27)
    go_wp2_with fail
    refine (c_impl_ReadTable r a c Y l hS _ (HT.out.1.below hA) (HT.out.2.1.below hA) (HT.out.2.2.below hA) (by omega)).mono ?_
    rintro e w2 ⟨vv, rfl, o_v, hB⟩
    replace hbx := hbx.kept hB
    replace hA := bthen hA hB
    have hVl := rdtV_small r a c l
    obtain ⟨V, hV⟩ : ∃ V, rdtV r a c l = V := ⟨_, rfl⟩
    obtain ⟨b, hb⟩ : ∃ b, rdtB r a c l = b := ⟨_, rfl⟩
    rw [hV] at o_v hVl
    rw [hb]
    have HV : Hid (rdtV r a c l = V ∧ rdtB r a c l = b) := ⟨hV, hb⟩
    have HS := Lib.hid hS
    clear hB hV hb hS
    obtain ⟨av, cv, rfl, hcv1, hcv2⟩ := own_cap o_v
    obtain ⟨k0, k1, k2, kb⟩ := hbx
    have HBx : Hid (Box3 w1.heap.size r a c w2) := ⟨k0, k1, k2, kb⟩
    go_wp2_with fail
    refine (c_spec_ReadTable r a c Y l HS.out w2 (by omega)).mono ?_
    rintro e w3 ⟨vw, rfl, o_w, hB⟩
    rw [HV.out.1] at o_w
    rw [HV.out.2]
    replace o_v := ownsRow_kept_below o_v hB
    replace HBx : Hid (Box3 w1.heap.size r a c w3) := HBx.out.kept hB
    replace hA := bthen hA hB
    clear hB k0 k1 k2 kb
    go_wp2_with fail
    refine (c_deInts _ _ V V _ (owns_RdI o_v) (owns_RdI o_w) (by omega) (by omega)).mono ?_
    rw [decide_eq_true rfl]
    rintro e w4 ⟨rfl, hB⟩
    replace o_v := ownsRow_kept_below o_v hB
    replace o_w := ownsRow_kept_below o_w hB
    have hbx := HBx.out.kept hB
    replace hA := bthen hA hB
    clear hB HBx
    cases hbb : b
    · subst hbb
      go_wp2_with fail
      refine (c_deInts _ _ V V _ (owns_RdI o_v) (owns_RdI o_w) (by omega) (by omega)).mono ?_
      rw [decide_eq_true rfl]
      rintro e w5 ⟨rfl, hB⟩
      replace hA := bthen hA hB
      clear hB o_v o_w hbx
      go_wp2
      go_ret
      exact ⟨rfl, hA⟩
    · subst hbb
      obtain ⟨g1, g2⟩ := rt_iff.1 HV.out.2
      have hVX : rdtX a c l = V := by rw [← HV.out.1]; unfold rdtV; rw [HV.out.2]; rfl
      rw [hVX] at g1 g2
      have hc := c_impl_PrintTable r a c av cv V w4 (HT.out.1.below hA) (owns_RdI o_v) (by omega) (by omega) (by omega)
      rw [g1, g2] at hc
      obtain ⟨k0, k1, k2, kb⟩ := hbx
      clear g1 g2 hVX o_v o_w
      go_wp2_with fail
      refine hc.mono ?_
      rintro e w5 ⟨Z, rfl, hZ, hB⟩
      obtain rfl : Z = Y := IsS.inj hZ HS.out
      replace hA := bthen hA hB
      clear hc hB k0 k1 k2 kb hZ
      go_wp2
      go_ret
      exact ⟨rfl, hA⟩

set_option maxRecDepth 100000 in
theorem lifted_FnReadTable (os : Os) (started : os.Started) (H : Type) (enc : TypeId × Value → H) :
    ReturnsInHanded {} Tryz.checked os 4 .any (fun w args => (Rows.fnReadTableSpec.pre enc Tryz.prog Tryz.f4 [] false w args ∧ laidMetH Tryz.prog Rows.fnReadTableRow.laid w) ∧ sizedMet enc Tryz.prog Tryz.f4 (OpenSpec.ofChange Rows.fnReadTableSpec) false w args)
      (Rows.fnReadTableSpec.post enc Tryz.prog Tryz.f4 false true false false) := by
  refine handed_shaped (C := Tryz.checked) (X := fun w _ => laidMetH Tryz.prog Rows.fnReadTableRow.laid w) (fun _ _ _ hh h => h.of_heap hh) own started (by kernel_rfl) Tryz.func4
    (ChangeSpec.witness_shaped (enc := enc) (C := Tryz.checked) (os := os) (X := fun w _ => laidMetH Tryz.prog Rows.fnReadTableRow.laid w) false (World.laidAll Tryz.prog os Rows.fnReadTableRow.laid) #[.slice none 0 0] 8 (World.laidAll_os _ _ _)
      (World.shaped_of_ZipB (by kernel_rfl) (by kernel_rfl)) (by kernel_rfl) (by kernel_rfl) (by kernel_rfl) (by rw [MakeChecks.laidMetH_plain _ _ _ (by kernel_rfl)]; exact laidMet_laidAll _ (by kernel_rfl) (by kernel_rfl))) ?_
  intro W base args ds gs before hval0 hW hL hsh
  have hval : ∀ (j : Nat) t v, Tryz.f4.params[j]? = some t → args[j]? = some v → Value.okWide Tryz.prog W .any base t v := hval0
  have htab : TabW W := TabW.of_laid (by kernel_rfl) hL
  have herr : ErrW W := ErrW.of_laid (by kernel_rfl) hL
  have hmax : MaxW W := MaxW.of_shaped hsh
  have hW' := hW
  obtain ⟨p, q, hA0, hV, rfl, hfz, hnd⟩ := hW
  have hA : DataW.TrodAll enc Tryz.prog W 0 (fun _ => true) true Tryz.f4.params.toList args.toList ds p := hA0
  rw [Tryz.params4] at hA hval
  obtain ⟨v0, vs0, d0, ds0, p0, q0, hargs, rfl, rfl, h0, r0⟩ := trodAll_cons hA
  obtain ⟨rfl, rfl, rfl⟩ := trodAll_nil r0
  obtain rfl : args = #[v0] := by cases args; simp_all
  obtain ⟨rfl, rfl⟩ := trodVars_none hV
  obtain ⟨l0, w0⟩ := open_bytes (hval 0 32 v0 rfl rfl) h0
  refine (walk_FnReadTable v0 l0 w0 htab herr hmax).mono fun e W' ⟨he, hg⟩ => ?_
  subst he
  exact ⟨_, rfl, law_post laidOut hW' rfl (by kernel_rfl) rfl Tryz.underlying4 rfl rfl rfl rfl hg⟩
theorem factA_FnReadTable : factsA Tryz.prog 4 Tryz.f4 Rows.fnReadTableSpec Rows.fnReadTableRow = true := by kernel_rfl
theorem fact9_FnReadTable : (Rows.fnReadTableRow.inPlace == Tryz.prog.inPlace 4) = true := by kernel_rfl
theorem fact10_FnReadTable : (Rows.fnReadTableRow.unfollowed == Tryz.prog.unfollowed 4) = true := by kernel_rfl
theorem fact11_FnReadTable : (Rows.fnReadTableRow.recurses == Tryz.prog.recurses 4) = true := by kernel_rfl
theorem fact12_FnReadTable : (Rows.fnReadTableRow.named == Tryz.prog.varsNamed 4) = true := by kernel_rfl
theorem factB_FnReadTable : factsB Tryz.prog 4 Tryz.f4 Rows.fnReadTableSpec Rows.fnReadTableRow = true := by kernel_rfl
theorem factN_FnReadTable : Tryz.prog.funcNamed Rows.fnReadTableRow.func = some 4 := by kernel_rfl
theorem proved_FnReadTable : Rows.FnReadTableSaid :=
  OpenClaim.holds_of_wide 4 Tryz.f4 rfl rfl rfl rfl rfl rfl rfl ⟨rfl, rfl, rfl, rfl, rfl⟩ rfl rfl rfl rfl rfl factN_FnReadTable Tryz.func4 (closed_of factA_FnReadTable fact9_FnReadTable fact10_FnReadTable fact11_FnReadTable fact12_FnReadTable factB_FnReadTable rfl rfl rfl)
    (of_decide_eq_true (by kernel_rfl)) (by unfold Func.isWrapper; first | (rw [if_pos (by decide +kernel)]; kernel_rfl) | (rw [if_neg (by decide +kernel)]; exact ⟨rfl, rfl⟩))
    (fun os started H enc _ => lifted_FnReadTable os started H enc)
theorem card_FnReadTable : Rows.FnReadTableCardSaid :=
  Claim7.holds_tied_plain_at .later [] [.data, .data, .data, .data, .sentinel, .sentinel, .pinned] true (true, "730894ce3fdd1c60b1cd13fd3d8d0eaff75b6a36daf9ceb74fd76b5c933006d2") true
    proved_FnReadTable (fun _ h => by cases h) (by kernel_rfl) (fun _ h => by cases h) fnReadTable_row_tie rfl ⟨rfl, rfl⟩ (by kernel_rfl) rfl
    (fun f fn hf hfn => by
      obtain rfl : f = 4 := Option.some.inj (factN_FnReadTable.symm.trans hf) |>.symm
      obtain rfl : fn = Tryz.f4 := (Option.some.inj (Tryz.func4.symm.trans hfn)).symm
      exact ⟨by kernel_rfl, fun j t ht => by
        rw [Tryz.params4] at ht
        have hm : t ∈ [32] := by simpa using Array.mem_of_getElem? ht
        have hall : ([32].all fun u => !Tryz.prog.wantsStandIn u) = true := by kernel_rfl
        exact (show Tryz.prog.wantsStandIn t = false by simpa using List.all_eq_true.1 hall t hm)⟩)
    (by kernel_rfl)
end Go.Proofs.YtgjaajfpdajleaaGreatDoor
