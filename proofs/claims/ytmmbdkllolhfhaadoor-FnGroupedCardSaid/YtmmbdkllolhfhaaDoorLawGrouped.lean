/- FnGrouped: a number is parsed from its digits in groups, and a text that is parsed is that of the parsed number. The tables that the card lists are tied to the program's text by the given tie. No condition. -/
import Derived.Test.YtmmbdkllolhfhaaDoorNum0
import Derived.Test.YtmmbdkllolhfhaaDoorDrawPg
import Derived.Test.YtmmbdkllolhfhaaDoorTie
import Derived.Test.YtmmbdkllolhfhaaDoorCards
import Derived.LaidMore
import Derived.Lay
import Derived.LaidSub
import Derived.MakeChecks
import Derived.Stop.Joined
import Derived.SevenTiedAt
namespace Go.Proofs.YtmmbdkllolhfhaaDoor
set_option linter.unusedVariables false
open Go.ChangeShapes Go.WideShapes Go.ChangeAt Go.RowKit

set_option maxHeartbeats 2000000 in
set_option maxRecDepth 100000 in
theorem walk_FnGrouped (v1 : Value) (cs1 : List Int) {w : World} (hw1 : RdL w v1 (cs1.map (Value.int .u8)) ∧ cs1.length ≤ 9223372036854775807 ∧ (∀ n ∈ cs1, (Lit.int .u8 n).wf = true) ∧ CapOk v1)
    (v2 : Value) (cs2 : List Int) (hw2 : RdL w v2 (cs2.map (Value.int .u8)) ∧ cs2.length ≤ 9223372036854775807 ∧ (∀ n ∈ cs2, (Lit.int .u8 n).wf = true) ∧ CapOk v2) (htab : TabW w) (herr : ErrW w) (hmax : MaxW w) :
    Calls Tryd.prog 6 #[v1, v2] w fun e w' => e = .returned (.bool true) ∧ Below w.heap.size w w' := by
  obtain ⟨hR1, hlen1, hwf1, hcap1⟩ := hw1
  obtain ⟨hR2, hlen2, hwf2, hcap2⟩ := hw2
  have hR0 := hR1
  obtain ⟨a1, cap1, rfl, hR3⟩ := hR0
  clear hR3
  have hR0 := hR2
  obtain ⟨a2, cap2, rfl, hR3⟩ := hR0
  clear hR3
  have HT : Hid (TabW w ∧ ErrW w ∧ MaxW w) := ⟨htab, herr, hmax⟩
  clear htab herr hmax
  simp only [List.length_map] at hR1 hR2 hcap1 hcap2 ⊢
  by_cases hb1 : 1048576 < cs1.length
  · clear hR1 hR2 hcap1 hcap2 hwf1 hwf2
    go_enter Tryd.func6, Tryd.ntmps6
    go_wp2
    go_ret
    exact ⟨rfl, Below.refl _ _⟩
  by_cases hb2 : 1048576 < cs2.length
  · clear hR1 hR2 hcap1 hcap2 hwf1 hwf2
    go_enter Tryd.func6, Tryd.ntmps6
    go_wp2
    go_ret
    exact ⟨rfl, Below.refl _ _⟩
  go_enter Tryd.func6, Tryd.ntmps6
  go_wp2_with fail
  refine (c_DrawGroupDigits0 _ cs1 w hR1 (by omega) hwf1 hcap1).mono ?_
  rintro e wa ⟨n, rfl, hA⟩
  clear hR1 hwf1 hcap1
  go_wp2_with fail
  refine (c_impl_GroupDigits n wa (HT.out.1.below hA)).mono ?_
  rintro e wb ⟨Y, rfl, hY, hB⟩
  replace hA := bthen hA hB
  clear hB
  go_wp2_with fail
  refine (c_spec_GroupDigits n _).mono ?_
  rintro e wc ⟨Z, rfl, hZ, hB⟩
  replace hA := bthen hA hB
  obtain rfl : Z = Y := hZ.inj hY
  clear hB hZ
  cases hin : inB n (-1000000000) 1000000000
  · have hF : grpF n = [] := by unfold grpF; rw [hin]; rfl
    have hnil : Z.toList = [] := by rw [ByteArray.toList_eq, ← hF]; exact hY
    clear hY hF hin
    go_wp2_with fail
    refine (c_DrawParseGrouped _ cs2 _ (RdL.kept hR2 hA) (by omega) hwf2 hcap2).mono ?_
    rintro e wd ⟨T, rfl, hTs, hB⟩
    replace hA := bthen hA hB
    clear hB hR2 hwf2 hcap2
    have hi := c_impl_ParseGrouped T _ (IsS.self T) wd (HT.out.1.below hA) (HT.out.2.1.below hA) (HT.out.2.2.below hA) (by omega)
    have hs := fun W => c_spec_ParseGrouped T _ (IsS.self T) W (by omega)
    unfold PgRet at hi hs
    cases hp : pgP T.data.toList with
    | none =>
      rw [hp] at hi hs
      replace hi : Calls Tryd.prog 19 #[.string T] wd fun e w' => e = .returned (.tuple #[.int .i64 0, .bool false]) ∧ Below wd.heap.size wd w' := hi
      replace hs : ∀ W, Calls Tryd.prog 18 #[.string T] W fun e w' => e = .returned (.tuple #[.int .i64 0, .bool false]) ∧ Below W.heap.size W w' := hs
      have HS := Lib.hid hs
      clear hs hp
      go_wp2_with fail
      refine hi.mono ?_
      rintro e we ⟨rfl, hB⟩
      replace hA := bthen hA hB
      clear hB hi
      go_wp2_with fail
      refine (HS.out _).mono ?_
      rintro e wf ⟨rfl, hB⟩
      replace hA := bthen hA hB
      clear hB
      go_wp2
      go_ret
      exact ⟨rfl, hA⟩
    | some m =>
      rw [hp] at hi hs
      replace hi : Calls Tryd.prog 19 #[.string T] wd fun e w' => e = .returned (.tuple #[.int .i64 m, .bool true]) ∧ Below wd.heap.size wd w' := hi
      replace hs : ∀ W, Calls Tryd.prog 18 #[.string T] W fun e w' => e = .returned (.tuple #[.int .i64 m, .bool true]) ∧ Below W.heap.size W w' := hs
      have HS := Lib.hid hs
      have HB := Lib.hid (pgP_back hp)
      clear hs hp
      go_wp2_with fail
      refine hi.mono ?_
      rintro e we ⟨rfl, hB⟩
      replace hA := bthen hA hB
      clear hB hi
      go_wp2_with fail
      refine (HS.out _).mono ?_
      rintro e wf ⟨rfl, hB⟩
      replace hA := bthen hA hB
      clear hB
      go_wp2_with fail
      refine (c_impl_GroupDigits m _ (HT.out.1.below hA)).mono ?_
      rintro e wg ⟨Z, rfl, hZ, hB⟩
      replace hA := bthen hA hB
      rw [HB.out] at hZ
      obtain rfl : Z = T := hZ.inj (IsS.self T)
      clear hB hZ
      go_wp2
      go_ret
      exact ⟨rfl, hA⟩
  · obtain ⟨n1, n2⟩ := inB_iff.1 hin
    have hn0 : Z.toList ≠ [] := fun e => by
      rw [ByteArray.toList_eq] at e
      exact grpF_ne n1 n2 (hY.symm.trans e)
    have hn1 : (Z.toList == []) = false := beq_eq_false_iff_ne.2 hn0
    have hn2 : Z.toList.isEmpty = false := by simpa using hn0
    have hn3 : (Z.toList = []) = False := eq_false hn0
    have hfl := grpF_len n
    have hZs : Z.size ≤ 1048576 := by rw [hY.size]; omega
    have hi := c_impl_ParseGrouped Z _ hY wc (HT.out.1.below hA) (HT.out.2.1.below hA) (HT.out.2.2.below hA) hZs
    unfold PgRet at hi
    rw [pgP_grp n1 n2] at hi
    replace hi : Calls Tryd.prog 19 #[.string Z] wc fun e w' => e = .returned (.tuple #[.int .i64 n, .bool true]) ∧ Below wc.heap.size wc w' := hi
    clear hn0 hfl hZs hY hin
    go_wp2_with fail
    refine hi.mono ?_
    rintro e wx ⟨rfl, hB⟩
    replace hA := bthen hA hB
    clear hB hi hn1 hn2 hn3
    go_wp2_with fail
    refine (c_DrawParseGrouped _ cs2 _ (RdL.kept hR2 hA) (by omega) hwf2 hcap2).mono ?_
    rintro e wd ⟨T, rfl, hTs, hB⟩
    replace hA := bthen hA hB
    clear hB hR2 hwf2 hcap2
    have hi := c_impl_ParseGrouped T _ (IsS.self T) wd (HT.out.1.below hA) (HT.out.2.1.below hA) (HT.out.2.2.below hA) (by omega)
    have hs := fun W => c_spec_ParseGrouped T _ (IsS.self T) W (by omega)
    unfold PgRet at hi hs
    cases hp : pgP T.data.toList with
    | none =>
      rw [hp] at hi hs
      replace hi : Calls Tryd.prog 19 #[.string T] wd fun e w' => e = .returned (.tuple #[.int .i64 0, .bool false]) ∧ Below wd.heap.size wd w' := hi
      replace hs : ∀ W, Calls Tryd.prog 18 #[.string T] W fun e w' => e = .returned (.tuple #[.int .i64 0, .bool false]) ∧ Below W.heap.size W w' := hs
      have HS := Lib.hid hs
      clear hs hp
      go_wp2_with fail
      refine hi.mono ?_
      rintro e we ⟨rfl, hB⟩
      replace hA := bthen hA hB
      clear hB hi
      go_wp2_with fail
      refine (HS.out _).mono ?_
      rintro e wf ⟨rfl, hB⟩
      replace hA := bthen hA hB
      clear hB
      go_wp2
      go_ret
      exact ⟨rfl, hA⟩
    | some m =>
      rw [hp] at hi hs
      replace hi : Calls Tryd.prog 19 #[.string T] wd fun e w' => e = .returned (.tuple #[.int .i64 m, .bool true]) ∧ Below wd.heap.size wd w' := hi
      replace hs : ∀ W, Calls Tryd.prog 18 #[.string T] W fun e w' => e = .returned (.tuple #[.int .i64 m, .bool true]) ∧ Below W.heap.size W w' := hs
      have HS := Lib.hid hs
      have HB := Lib.hid (pgP_back hp)
      clear hs hp
      go_wp2_with fail
      refine hi.mono ?_
      rintro e we ⟨rfl, hB⟩
      replace hA := bthen hA hB
      clear hB hi
      go_wp2_with fail
      refine (HS.out _).mono ?_
      rintro e wf ⟨rfl, hB⟩
      replace hA := bthen hA hB
      clear hB
      go_wp2_with fail
      refine (c_impl_GroupDigits m _ (HT.out.1.below hA)).mono ?_
      rintro e wg ⟨Z, rfl, hZ, hB⟩
      replace hA := bthen hA hB
      rw [HB.out] at hZ
      obtain rfl : Z = T := hZ.inj (IsS.self T)
      clear hB hZ
      go_wp2
      go_ret
      exact ⟨rfl, hA⟩

set_option maxRecDepth 100000 in
theorem lifted_FnGrouped (os : Os) (started : os.Started) (H : Type) (enc : TypeId × Value → H) :
    ReturnsInHanded {} Tryd.checked os 6 .any (fun w args => (Rows.fnGroupedSpec.pre enc Tryd.prog Tryd.f6 [] false w args ∧ laidMetH Tryd.prog Rows.fnGroupedRow.laid w) ∧ sizedMet enc Tryd.prog Tryd.f6 (OpenSpec.ofChange Rows.fnGroupedSpec) false w args)
      (Rows.fnGroupedSpec.post enc Tryd.prog Tryd.f6 false true false false) := by
  refine handed_shaped (C := Tryd.checked) (X := fun w _ => laidMetH Tryd.prog Rows.fnGroupedRow.laid w) (fun _ _ _ hh h => h.of_heap hh) own started (by kernel_rfl) Tryd.func6
    (ChangeSpec.witness_shaped (enc := enc) (C := Tryd.checked) (os := os) (X := fun w _ => laidMetH Tryd.prog Rows.fnGroupedRow.laid w) false (World.laidAll Tryd.prog os Rows.fnGroupedRow.laid) #[.slice none 0 0, .slice none 0 0] 8 (World.laidAll_os _ _ _)
      (World.shaped_of_ZipB (by kernel_rfl) (by kernel_rfl)) (by kernel_rfl) (by kernel_rfl) (by kernel_rfl) (by rw [MakeChecks.laidMetH_plain _ _ _ (by kernel_rfl)]; exact laidMet_laidAll _ (by kernel_rfl) (by kernel_rfl))) ?_
  intro W base args ds gs before hval0 hW hL hsh
  have hval : ∀ (j : Nat) t v, Tryd.f6.params[j]? = some t → args[j]? = some v → Value.okWide Tryd.prog W .any base t v := hval0
  have htab : TabW W := TabW.of_laid (by kernel_rfl) hL
  have herr : ErrW W := ErrW.of_laid (by kernel_rfl) hL
  have hmax : MaxW W := MaxW.of_shaped hsh
  have hW' := hW
  obtain ⟨p, q, hA0, hV, rfl, hfz, hnd⟩ := hW
  have hA : DataW.TrodAll enc Tryd.prog W 0 (fun _ => true) true Tryd.f6.params.toList args.toList ds p := hA0
  rw [Tryd.params6] at hA hval
  obtain ⟨v0, vs0, d0, ds0, p0, q0, hargs, rfl, rfl, h0, r0⟩ := trodAll_cons hA
  obtain ⟨v1, vs1, d1, ds1, p1, q1, rfl, rfl, rfl, h1, r1⟩ := trodAll_cons r0
  obtain ⟨rfl, rfl, rfl⟩ := trodAll_nil r1
  obtain rfl : args = #[v0, v1] := by cases args; simp_all
  obtain ⟨rfl, rfl⟩ := trodVars_none hV
  obtain ⟨l0, w0⟩ := open_bytes (hval 0 42 v0 rfl rfl) h0
  obtain ⟨l1, w1⟩ := open_bytes (hval 1 42 v1 rfl rfl) h1
  refine (walk_FnGrouped v0 l0 w0 v1 l1 w1 htab herr hmax).mono fun e W' ⟨he, hg⟩ => ?_
  subst he
  exact ⟨_, rfl, law_post laidOut hW' rfl (by kernel_rfl) rfl Tryd.underlying4 rfl rfl rfl rfl hg⟩
theorem factA_FnGrouped : factsA Tryd.prog 6 Tryd.f6 Rows.fnGroupedSpec Rows.fnGroupedRow = true := by kernel_rfl
theorem fact9_FnGrouped : (Rows.fnGroupedRow.inPlace == Tryd.prog.inPlace 6) = true := by kernel_rfl
theorem fact10_FnGrouped : (Rows.fnGroupedRow.unfollowed == Tryd.prog.unfollowed 6) = true := by kernel_rfl
theorem fact11_FnGrouped : (Rows.fnGroupedRow.recurses == Tryd.prog.recurses 6) = true := by kernel_rfl
theorem fact12_FnGrouped : (Rows.fnGroupedRow.named == Tryd.prog.varsNamed 6) = true := by kernel_rfl
theorem factB_FnGrouped : factsB Tryd.prog 6 Tryd.f6 Rows.fnGroupedSpec Rows.fnGroupedRow = true := by kernel_rfl
theorem factN_FnGrouped : Tryd.prog.funcNamed Rows.fnGroupedRow.func = some 6 := by kernel_rfl
theorem proved_FnGrouped : Rows.FnGroupedSaid :=
  OpenClaim.holds_of_wide 6 Tryd.f6 rfl rfl rfl rfl rfl rfl rfl ⟨rfl, rfl, rfl, rfl, rfl⟩ rfl rfl rfl rfl rfl factN_FnGrouped Tryd.func6 (closed_of factA_FnGrouped fact9_FnGrouped fact10_FnGrouped fact11_FnGrouped fact12_FnGrouped factB_FnGrouped rfl rfl rfl)
    (of_decide_eq_true (by kernel_rfl)) (by unfold Func.isWrapper; first | (rw [if_pos (by decide +kernel)]; kernel_rfl) | (rw [if_neg (by decide +kernel)]; exact ⟨rfl, rfl⟩))
    (fun os started H enc _ => lifted_FnGrouped os started H enc)
theorem card_FnGrouped : Rows.FnGroupedCardSaid :=
  Claim7.holds_tied_plain_at .later [] [.data, .data, .data, .data, .sentinel, .sentinel, .pinned] true (true, "e101157e4c9e637363a8fa74284d0f2a3bfd8b41c096af02f62d292a7d2caf41") true
    proved_FnGrouped (fun _ h => by cases h) (by kernel_rfl) (fun _ h => by cases h) fnGrouped_row_tie rfl ⟨rfl, rfl⟩ (by kernel_rfl) rfl
    (fun f fn hf hfn => by
      obtain rfl : f = 6 := Option.some.inj (factN_FnGrouped.symm.trans hf) |>.symm
      obtain rfl : fn = Tryd.f6 := (Option.some.inj (Tryd.func6.symm.trans hfn)).symm
      exact ⟨by kernel_rfl, fun j t ht => by
        rw [Tryd.params6] at ht
        have hm : t ∈ [42, 42] := by simpa using Array.mem_of_getElem? ht
        have hall : ([42, 42].all fun u => !Tryd.prog.wantsStandIn u) = true := by kernel_rfl
        exact (show Tryd.prog.wantsStandIn t = false by simpa using List.all_eq_true.1 hall t hm)⟩)
    (by kernel_rfl)
end Go.Proofs.YtmmbdkllolhfhaaDoor
