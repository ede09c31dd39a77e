/- FnReadPage: lines that are read as a page are the lines of the page that its entries make, and one page is needed. The tables that the card lists are tied to the program's text by the given tie. No condition. -/
import Derived.Test.YtdgnhplaakjlgaaGreatDoorMReadPageRp3
import Derived.Test.YtdgnhplaakjlgaaGreatDoorMReadPageRpP3
import Derived.Test.YtdgnhplaakjlgaaGreatDoorMReadPageMaxW
import Derived.Test.YtdgnhplaakjlgaaGreatDoorMReadPageDrawS
import Derived.Test.YtdgnhplaakjlgaaGreatDoorMReadPageDeI
import Derived.Test.YtdgnhplaakjlgaaGreatDoorTie
import Derived.Test.YtdgnhplaakjlgaaGreatDoorCards
import Derived.LaidMore
import Derived.Lay
import Derived.LaidSub
import Derived.MakeChecks
import Derived.Stop.Joined
import Derived.SevenTiedAt
namespace Go.Proofs.YtdgnhplaakjlgaaGreatDoor
set_option linter.unusedVariables false
open Go.ChangeShapes Go.WideShapes Go.ChangeAt Go.RowKit

theorem rpV_le (r a c : Int) (ys : List ByteArray) : (rpV r a c ys).length ≤ 60 := by
  unfold rpV
  by_cases h : rpB r a c ys = true
  · rw [if_pos h]
    have h1 := plin_lay (rp_rd h).2.2.2.2.1
    obtain ⟨_, ht, _, _⟩ := pgB_iff h1
    obtain ⟨t1, t2, _⟩ := tabB_iff ht
    omega
  · rw [if_neg h]; simp
set_option maxHeartbeats 4000000 in
set_option maxRecDepth 100000 in
theorem walk_FnReadPage (v : Value) (cs : List Int) {w : World} (hw : RdL w v (cs.map (Value.int .u8)) ∧ cs.length ≤ 9223372036854775807 ∧ (∀ n ∈ cs, (Lit.int .u8 n).wf = true) ∧ CapOk v) (htab : TabW w) (herr : ErrW w) (hmax : MaxW w) :
    Calls Tryz.prog 3 #[v] w fun e w' => e = .returned (.bool true) ∧ Below w.heap.size w w' := by
  obtain ⟨hR, hlen, hwf, hcap⟩ := hw
  have hR0 := hR
  obtain ⟨a, cap, rfl, hR1⟩ := hR0
  clear hR1 hmax
  have HT : Hid (TabW w ∧ ErrW w) := ⟨htab, herr⟩
  clear htab herr
  simp only [List.length_map] at hR hcap ⊢
  by_cases hbig : 1048576 < cs.length
  · clear hR hcap hwf
    go_enter Tryz.func3, Tryz.ntmps3
    go_wp2
    go_ret
    exact ⟨rfl, Below.refl _ _⟩
  · go_enter Tryz.func3, Tryz.ntmps3
    go_wp2_with fail
    refine (c_DrawReadPage _ cs w hR (by omega) hwf hcap).mono ?_
    rintro e w1 ⟨r, a, c, vv, ys, rfl, o_y, hy20, hys, hA⟩
    clear hR hwf hcap
    have hbx := Box3.new w1 r a c 24
    replace o_y : OwnS (w1.alloc (.cells #[(.int .i64 (r)), (.int .i64 (a)), (.int .i64 (c))] 24)) w.heap.size vv ys := o_y.alloc (.cells #[(.int .i64 (r)), (.int .i64 (a)), (.int .i64 (c))] 24)
    replace hA := hA.alloc hA.size (.cells #[(.int .i64 (r)), (.int .i64 (a)), (.int .i64 (c))] 24)
    have HYS : Hid (∀ y ∈ ys, y.size ≤ 200) := hys
    clear hys
    go_wp2_with fail
    refine (c_impl_ReadPage r a c _ ys _ (HT.out.1.below hA) (HT.out.2.below hA) (owns_RdS o_y) (by omega) (fun y hy => by have := HYS.out y hy; omega)).mono ?_
    rintro e w2 ⟨vl, rfl, o_l, hB⟩
    have r_y := RdS.kept (owns_RdS o_y) hB
    replace hbx := hbx.kept hB
    replace hA := bthen hA hB
    obtain ⟨k0, k1, k2, kb⟩ := hbx
    have HBx : Hid (Box3 w1.heap.size r a c w2) := ⟨k0, k1, k2, kb⟩
    clear hB o_y
    go_wp2_with fail
    refine (c_spec_ReadPage r a c _ ys _ r_y (by omega) (fun y hy => by have := HYS.out y hy; omega)).mono ?_
    rintro e w3 ⟨vs, rfl, o_s, hB⟩
    replace r_y := RdS.kept r_y hB
    replace o_l := ownsRow_kept_below o_l hB
    replace HBx : Hid (Box3 w1.heap.size r a c w3) := HBx.out.kept hB
    replace hA := bthen hA hB
    clear hB k0 k1 k2 kb
    have hV60 := rpV_le r a c ys
    have hrd : Hid (rpB r a c ys = true → plinB r a c (rpV r a c ys) 0 = true ∧ plinS r a c (rpV r a c ys) 0 = ys ∧ pnF r a c (rpV r a c ys).length = 1) := fun h => by
      obtain ⟨_, _, _, _, h5, h6, h7⟩ := rp_rd h
      have e : rpV r a c ys = rpX a c ys := if_pos h
      rw [e]
      exact ⟨h5, h6, (rp_pn h5).2 h7⟩
    obtain ⟨V, hV⟩ : ∃ V, rpV r a c ys = V := ⟨_, rfl⟩
    obtain ⟨b, hb⟩ : ∃ b, rpB r a c ys = b := ⟨_, rfl⟩
    rw [hV] at o_l o_s
    obtain ⟨Bl, o_l2⟩ : ∃ B, OwnI w3 B vl V := ⟨_, o_l⟩
    obtain ⟨Bs, o_s2⟩ : ∃ B, OwnI w3 B vs V := ⟨_, o_s⟩
    rw [hV] at hrd hV60
    rw [hb] at hrd ⊢
    clear o_l o_s hV hb
    obtain ⟨al, cl, rfl⟩ := OwnI_form3 o_l2
    go_wp2_with fail
    refine (k_de_ints _ _ _ _ V _ o_l2 o_s2 (by omega)).mono ?_
    rintro e w4 ⟨rfl, hB⟩
    replace r_y := RdS.kept r_y hB
    have o_l := ownsRow_kept_below o_l2 hB
    have o_s := ownsRow_kept_below o_s2 hB
    replace HBx : Hid (Box3 w1.heap.size r a c w4) := HBx.out.kept hB
    replace hA := bthen hA hB
    clear hB o_l2 o_s2
    cases hbb : b
    · subst hbb
      go_wp2_with fail
      refine (k_de_ints _ _ _ _ V _ o_l o_s (by omega)).mono ?_
      rintro e w5 ⟨rfl, hB⟩
      replace hA := bthen hA hB
      clear hB o_l o_s r_y HBx
      go_wp2
      go_ret
      exact ⟨rfl, hA⟩
    · subst hbb
      obtain ⟨g1, g2, g3⟩ := hrd.out rfl
      obtain ⟨k0, k1, k2, kb⟩ := HBx.out
      have hcl := k_impl_PageLines2 r a c _ V 0 w4 (HT.out.1.below hA) o_l (by omega)
      rw [g1, g2] at hcl
      have HPN : Hid (pnF r a c V.length = 1) := g3
      clear g1 g2 g3 o_s hrd
      go_wp2_with fail
      refine hcl.mono ?_
      rintro e w5 ⟨vb, rfl, o_b, hB⟩
      replace r_y := RdS.kept r_y hB
      replace HBx : Hid (Box3 w1.heap.size r a c w5) := HBx.out.kept hB
      replace hA := bthen hA hB
      clear hB k0 k1 k2 kb hcl o_l
      go_wp2_with fail
      refine (c_deTexts_t _ _ ys _ (owns_RdS o_b) r_y (by omega)).mono ?_
      rintro e w6 ⟨rfl, hB⟩
      replace HBx : Hid (Box3 w1.heap.size r a c w6) := HBx.out.kept hB
      replace hA := bthen hA hB
      clear hB o_b r_y
      obtain ⟨k0, k1, k2, kb⟩ := HBx.out
      go_wp2_with fail
      refine (c_impl_PagesNeeded r a c V.length _).mono ?_
      rw [HPN.out]
      rintro e w7 ⟨rfl, hB⟩
      replace hA := bthen hA hB
      clear hB k0 k1 k2 kb HBx
      go_wp2
      go_ret
      exact ⟨rfl, hA⟩

set_option maxRecDepth 100000 in
theorem lifted_FnReadPage (os : Os) (started : os.Started) (H : Type) (enc : TypeId × Value → H) :
    ReturnsInHanded {} Tryz.checked os 3 .any (fun w args => (Rows.fnReadPageSpec.pre enc Tryz.prog Tryz.f3 [] false w args ∧ laidMetH Tryz.prog Rows.fnReadPageRow.laid w) ∧ sizedMet enc Tryz.prog Tryz.f3 (OpenSpec.ofChange Rows.fnReadPageSpec) false w args)
      (Rows.fnReadPageSpec.post enc Tryz.prog Tryz.f3 false true false false) := by
  refine handed_shaped (C := Tryz.checked) (X := fun w _ => laidMetH Tryz.prog Rows.fnReadPageRow.laid w) (fun _ _ _ hh h => h.of_heap hh) own started (by kernel_rfl) Tryz.func3
    (ChangeSpec.witness_shaped (enc := enc) (C := Tryz.checked) (os := os) (X := fun w _ => laidMetH Tryz.prog Rows.fnReadPageRow.laid w) false (World.laidAll Tryz.prog os Rows.fnReadPageRow.laid) #[.slice none 0 0] 8 (World.laidAll_os _ _ _)
      (World.shaped_of_ZipB (by kernel_rfl) (by kernel_rfl)) (by kernel_rfl) (by kernel_rfl) (by kernel_rfl) (by rw [MakeChecks.laidMetH_plain _ _ _ (by kernel_rfl)]; exact laidMet_laidAll _ (by kernel_rfl) (by kernel_rfl))) ?_
  intro W base args ds gs before hval0 hW hL hsh
  have hval : ∀ (j : Nat) t v, Tryz.f3.params[j]? = some t → args[j]? = some v → Value.okWide Tryz.prog W .any base t v := hval0
  have htab : TabW W := TabW.of_laid (by kernel_rfl) hL
  have herr : ErrW W := ErrW.of_laid (by kernel_rfl) hL
  have hmax : MaxW W := MaxW.of_shaped hsh
  have hW' := hW
  obtain ⟨p, q, hA0, hV, rfl, hfz, hnd⟩ := hW
  have hA : DataW.TrodAll enc Tryz.prog W 0 (fun _ => true) true Tryz.f3.params.toList args.toList ds p := hA0
  rw [Tryz.params3] at hA hval
  obtain ⟨v0, vs0, d0, ds0, p0, q0, hargs, rfl, rfl, h0, r0⟩ := trodAll_cons hA
  obtain ⟨rfl, rfl, rfl⟩ := trodAll_nil r0
  obtain rfl : args = #[v0] := by cases args; simp_all
  obtain ⟨rfl, rfl⟩ := trodVars_none hV
  obtain ⟨l0, w0⟩ := open_bytes (hval 0 22 v0 rfl rfl) h0
  refine (walk_FnReadPage v0 l0 w0 htab herr hmax).mono fun e W' ⟨he, hg⟩ => ?_
  subst he
  exact ⟨_, rfl, law_post laidOut hW' rfl (by kernel_rfl) rfl Tryz.underlying4 rfl rfl rfl rfl hg⟩
theorem factA_FnReadPage : factsA Tryz.prog 3 Tryz.f3 Rows.fnReadPageSpec Rows.fnReadPageRow = true := by kernel_rfl
theorem fact9_FnReadPage : (Rows.fnReadPageRow.inPlace == Tryz.prog.inPlace 3) = true := by kernel_rfl
theorem fact10_FnReadPage : (Rows.fnReadPageRow.unfollowed == Tryz.prog.unfollowed 3) = true := by kernel_rfl
theorem fact11_FnReadPage : (Rows.fnReadPageRow.recurses == Tryz.prog.recurses 3) = true := by kernel_rfl
theorem fact12_FnReadPage : (Rows.fnReadPageRow.named == Tryz.prog.varsNamed 3) = true := by kernel_rfl
theorem factB_FnReadPage : factsB Tryz.prog 3 Tryz.f3 Rows.fnReadPageSpec Rows.fnReadPageRow = true := by kernel_rfl
theorem factN_FnReadPage : Tryz.prog.funcNamed Rows.fnReadPageRow.func = some 3 := by kernel_rfl
theorem proved_FnReadPage : Rows.FnReadPageSaid :=
  OpenClaim.holds_of_wide 3 Tryz.f3 rfl rfl rfl rfl rfl rfl rfl ⟨rfl, rfl, rfl, rfl, rfl⟩ rfl rfl rfl rfl rfl factN_FnReadPage Tryz.func3 (closed_of factA_FnReadPage fact9_FnReadPage fact10_FnReadPage fact11_FnReadPage fact12_FnReadPage factB_FnReadPage rfl rfl rfl)
    (of_decide_eq_true (by kernel_rfl)) (by unfold Func.isWrapper; first | (rw [if_pos (by decide +kernel)]; kernel_rfl) | (rw [if_neg (by decide +kernel)]; exact ⟨rfl, rfl⟩))
    (fun os started H enc _ => lifted_FnReadPage os started H enc)
theorem card_FnReadPage : Rows.FnReadPageCardSaid :=
  Claim7.holds_tied_plain_at .later [] [.data, .data, .data, .data, .sentinel, .sentinel, .pinned] true (true, "b23ad90f7aab4990505e795eef0437fb6e91d4c4ec67d550635f60c54c9311ea") true
    proved_FnReadPage (fun _ h => by cases h) (by kernel_rfl) (fun _ h => by cases h) fnReadPage_row_tie rfl ⟨rfl, rfl⟩ (by kernel_rfl) rfl
    (fun f fn hf hfn => by
      obtain rfl : f = 3 := Option.some.inj (factN_FnReadPage.symm.trans hf) |>.symm
      obtain rfl : fn = Tryz.f3 := (Option.some.inj (Tryz.func3.symm.trans hfn)).symm
      exact ⟨by kernel_rfl, fun j t ht => by
        rw [Tryz.params3] at ht
        have hm : t ∈ [22] := by simpa using Array.mem_of_getElem? ht
        have hall : ([22].all fun u => !Tryz.prog.wantsStandIn u) = true := by kernel_rfl
        exact (show Tryz.prog.wantsStandIn t = false by simpa using List.all_eq_true.1 hall t hm)⟩)
    (by kernel_rfl)
