/- FnWholePlan: a plan that is parsed from its text is printed by engines without errata, its segments are clean, and it is found again from the printed table. The tables that the card lists are tied to the program's text by the given tie. No condition. -/
import Derived.Test.YtdfnclnjnmdboaaGreatDoorMWholePlanPp4
import Derived.Test.YtdfnclnjnmdboaaGreatDoorMWholePlanDeI
import Derived.Test.YtdfnclnjnmdboaaGreatDoorMWholePlanDrS5
import Derived.Test.YtdfnclnjnmdboaaGreatDoorMWholePlanPlan6
import Derived.Test.YtdfnclnjnmdboaaGreatDoorMWholePlanEng9
import Derived.Test.YtdfnclnjnmdboaaGreatDoorMWholePlanCp5
import Derived.Test.YtdfnclnjnmdboaaGreatDoorMWholePlanGrP2
import Derived.Test.YtdfnclnjnmdboaaGreatDoorMWholePlanErrt
import Derived.Test.YtdfnclnjnmdboaaGreatDoorMWholePlanNumF
import Derived.Test.YtdfnclnjnmdboaaGreatDoorTie
import Derived.Test.YtdfnclnjnmdboaaGreatDoorCards
import Derived.LaidMore
import Derived.Lay
import Derived.LaidSub
import Derived.MakeChecks
import Derived.Stop.Joined
import Derived.SevenTiedAt
namespace Go.Proofs.YtdfnclnjnmdboaaGreatDoor
set_option linter.unusedVariables false
open Go.ChangeShapes Go.WideShapes Go.ChangeAt Go.RowKit

theorem suB_12 {p : List Int} (h : polyB p = true) : suB p 12 = true := by
  unfold suB
  rw [List.all_eq_true]
  intro x hx
  have := polyB_mem h x hx
  unfold okC
  rw [inB_t (by decide) (by decide), Bool.true_and, fitB_iff]
  have e : ten ((12 : Int).toNat) = 1000000000000 := by decide
  rw [e]
  omega
theorem rn_small {pl : List Seg} {xs : List Int} (hp : planB pl = true) (hv : plV pl = xs) (hs : smP xs) : rnB pl 12 = true ∧ rnL pl 12 = xs := by
  have hb : rnB pl 12 = true := by
    unfold rnB
    rw [hp, Bool.true_and, List.all_eq_true]
    intro s hs
    exact suB_12 (segB_iff (List.all_eq_true.1 (planB_iff.1 hp).2.1 s hs)).2.2.1
  refine ⟨hb, ?_⟩
  unfold rnL
  rw [if_pos hb, rnV_map, hv]
  conv => rhs; rw [← List.map_id xs]
  apply List.map_congr_left
  intro x hx
  have h1 := hs.1 x hx
  refine (sg_fit (by decide)).2 ?_
  rw [fitB_iff]
  have e : ten ((12 : Int).toNat) = 1000000000000 := by decide
  rw [e]
  omega
theorem c_deInts_t (va vb : Value) (xs : List Int) (w : World) (ha : RdI w va xs) (hb : RdI w vb xs) (hx : xs.length ≤ 1099511627776) :
    Calls Tryz.prog 20 #[va, vb] w fun e w' => e = .returned (.bool true) ∧ Below w.heap.size w w' :=
  (c_deInts va vb xs xs w ha hb (by omega) (by omega)).mono fun _ _ ⟨h1, h2⟩ => ⟨by rw [h1]; simp, h2⟩
/-- a segment of a plan of runs, at its place in the table -/
theorem run_at {d : Int} {xs : List Int} {P : List Seg} {k at' : Nat} (hk : k < P.length) (h : RunPl d (xs.drop at') (P.drop k)) :
    ∃ c : Nat, (P.getD k noG).1 = c ∧ 1 ≤ c ∧ at' + c ≤ xs.length ∧ runB ((xs.drop at').take c) d = true ∧ RunPl d (xs.drop (at' + c)) (P.drop (k + 1)) := by
  rw [List.drop_eq_getElem_cons hk] at h
  obtain ⟨c, h1, h2, h3, h4⟩ := h
  have h5 := lg_le (xs.drop at') d
  rw [List.length_drop] at h5
  refine ⟨c, ?_, h1, by omega, lg_run h1 h2, ?_⟩
  · have e : P.getD k noG = P[k] := by simp [List.getD, hk]
    rw [e, h3]
  · rw [List.drop_drop] at h4
    exact h4
theorem clean_of {d : Nat} {l : List Int} (h : runB l d = true) (hd : d ≤ 6) : tabB l = true ∧ allZ (nxtN (d + 1) l) = true := by
  obtain ⟨h1, h2, _, _⟩ := runB_iff h
  refine ⟨h1, ?_⟩
  have := (ld_le (l := l) (d := (d : Int)) (by omega) (by omega)).1 h2
  rwa [show ((d : Int) + 1).toNat = d + 1 by omega] at this
set_option maxHeartbeats 4000000 in
set_option maxRecDepth 100000 in
theorem walk_FnWholePlan (v : Value) (cs : List Int) {w : World} (hw : RdL w v (cs.map (Value.int .u8)) ∧ cs.length ≤ 9223372036854775807 ∧ (∀ n ∈ cs, (Lit.int .u8 n).wf = true) ∧ CapOk v) (htab : TabW w) (herr : ErrW w) (hmax : MaxW w) :
    Calls Tryz.prog 4 #[v] w fun e w' => e = .returned (.bool true) ∧ Below w.heap.size w w' := by
  obtain ⟨hR, hlen, hwf, hcap⟩ := hw
  have hR0 := hR
  obtain ⟨a, cap, rfl, hR1⟩ := hR0
  clear hR1
  simp only [List.length_map] at hR hcap ⊢
  by_cases hbig : 1048576 < cs.length
  · clear hR hcap hwf
    go_enter Tryz.func4, Tryz.ntmps4
    go_wp2
    go_ret
    exact ⟨rfl, Below.refl _ _⟩
  · have HIF : Hid (∀ u pl W, Below w.heap.size w W → RdP W u pl → pl.length ≤ 1099511627776 → (∀ s ∈ pl, s.2.length ≤ 1099511627776) → Calls Tryz.prog 6 #[u] W (StrB (fplL pl) W)) := fun u pl W hb h h1 h2 => c_FormatPlan u pl W (htab.below hb) h h1 h2
    have HIP : Hid (∀ s l W, Below w.heap.size w W → IsS s l → s.size ≤ 1048576 → Calls Tryz.prog 9 #[.string s] W (FreshPB W ((planP l).getD []) (planP l).isSome)) := fun s l W hb h h1 => c_ParsePlan s l h W (htab.below hb) (herr.below hb) (hmax.below hb) h1
    clear htab herr hmax
    go_enter Tryz.func4, Tryz.ntmps4
    go_wp2_with fail
    refine (c_DrawGreedyPlan _ cs w hR (by omega) hwf hcap).mono ?_
    rintro e w1 ⟨vx, xs, d, rfl, o_x, hx61, ⟨hd1, hd2⟩, hA⟩
    have hcx := owns_CapOk o_x
    have hrx := owns_RdI o_x
    clear hR hwf hcap o_x
    obtain ⟨xa, xc, rfl⟩ := RdI_form hrx
    have hxc : xs.length ≤ xc := hcx _ _ _ rfl
    clear hcx
    go_wp2_with fail
    refine (c_impl_GreedyPlan _ xs d w1 hrx (CapOk_of hxc) (by omega)).mono ?_
    rintro e w2 ⟨vp, rfl, o_p, hB⟩
    replace hA := bthen hA hB
    replace hrx := hrx.kept hB
    have hrp := o_p.rd
    clear hB o_p
    go_wp2_with fail
    refine (c_spec_GreedyPlan _ xs d w2 hrx (CapOk_of hxc) (by omega)).mono ?_
    rintro e w3 ⟨vs, rfl, o_s, hB⟩
    replace hA := bthen hA hB
    replace hrx := hrx.kept hB
    replace hrp := hrp.kept hB
    have hrs := o_s.rd
    clear hB o_s
    have hgl := grL_len xs d
    have HGM := hidd (grL_mem xs d)
    have HPX : Hid (∀ s ∈ grL xs d, s.2.length ≤ 1099511627776) := fun s hs => by have := HGM.out s hs; omega
    cases hv : grB xs d
    · clear hv
      go_wp2_with fail
      refine (k_de_plans _ _ _ _ hrp hrs (by omega) HPX.out).mono ?_
      rintro e w4 ⟨rfl, hB⟩
      replace hA := bthen hA hB
      replace hrp := hrp.kept hB
      replace hrs := hrs.kept hB
      clear hB hrx
      go_wp2_with fail
      refine (k_de_plans _ _ _ _ hrp hrs (by omega) HPX.out).mono ?_
      rintro e w5 ⟨rfl, hB⟩
      replace hA := bthen hA hB
      clear hB hrp hrs
      go_wp2
      go_ret
      exact ⟨rfl, hA⟩
    · have hgr : grL xs d = gr xs d := if_pos hv
      have hv' := hv
      unfold grB at hv'
      rw [Bool.and_eq_true] at hv'
      obtain ⟨hsm, hdd⟩ := hv'
      obtain ⟨hsp, h1x⟩ := smallB_iff.1 hsm
      obtain ⟨hd0, hd6⟩ := inB_iff.1 hdd
      have hrun := gr_RunPl d hd0 hd6 xs.length xs (Nat.le_refl _) hsp
      obtain ⟨hpb, hpv, _⟩ := RunPl_plan hd0 hd6 hsp h1x hrun
      obtain ⟨hrb, hrl⟩ := rn_small hpb hpv hsp
      have hcb : cpB xs d 1 0 = true := by unfold cpB; rw [hsm, hdd]; decide
      have hcl : (cpL xs d 1 0).length = (gr xs d).length := by unfold cpL; rw [if_pos hcb]; exact cheap_len hd0 hd6 hsp
      have htb := hsp.tab h1x
      obtain ⟨D, rfl⟩ : ∃ D : Nat, d = D := ⟨d.toNat, by omega⟩
      have hD6 : D ≤ 6 := by omega
      have hpp : planP (fplL (gr xs D)) = some (gr xs D) := planP_iff.2 ⟨hpb, (fplL_yes hpb).symm⟩
      have hfl := fplL_len (gr xs D)
      have HGP := hidd (fun (u : Value) (W : World) (h : RdI W u xs) (hc : CapOk u) => c_impl_GreedyPlan u xs D W h hc (by omega))
      have HCH := hidd (fun (u : Value) (W : World) (h : RdI W u xs) (hc : CapOk u) => c_impl_CheapestPlan u xs D 1 0 W h hc (by omega))
      rw [hv, hgr] at HGP
      rw [hcb] at HCH
      rw [hgr] at hrp hrs hgl HPX
      have HRU : Hid (∀ u W, RdP W u (gr xs D) → Calls Tryz.prog 16 #[u, (.int .i64 (12))] W (FreshIB W xs true)) := fun u W h => by
        have := c_RunPlan u (gr xs D) 12 W h (by omega) HPX.out
        rwa [hrb, hrl] at this
      obtain ⟨P, hP⟩ : ∃ P, gr xs D = P := ⟨_, rfl⟩
      rw [hP] at hrp hrs hgl HPX HGP HRU hrun hcl hpp hfl
      obtain ⟨Ch, hCh⟩ : ∃ Ch, cpL xs D 1 0 = Ch := ⟨_, rfl⟩
      rw [hCh] at hcl HCH
      have HRUN := hidd hrun
      have HPP := hidd hpp
      have HTB := hidd htb
      have HDP : Hid (∀ u1 u2 W, RdP W u1 P → RdP W u2 P → Calls Tryz.prog 10 #[u1, u2] W fun e w' => e = .returned (.bool true) ∧ Below W.heap.size W w') :=
        fun u1 u2 W h1 h2 => k_de_plans u1 u2 _ W h1 h2 (by omega) HPX.out
      have HCL := hidd hcl
      have hl1 : 1 ≤ P.length := by rw [← hP]; exact (planB_iff.1 hpb).1
      clear hv hgr hsm hdd hrun hpb hpv hrb hrl hcb hcl htb hpp hP hCh HGM hsp
      go_wp2_with fail
      refine (HDP.out _ _ _ hrp hrs).mono ?_
      rintro e w4 ⟨rfl, hB⟩
      replace hA := bthen hA hB
      replace hrp := hrp.kept hB
      replace hrx := hrx.kept hB
      clear hB hrs
      go_wp2_with fail
      refine (HIF.out _ P _ hA hrp (by omega) HPX.out).mono ?_
      rintro e w5 ⟨t, rfl, ht, hB⟩
      replace hA := bthen hA hB
      replace hrp := hrp.kept hB
      replace hrx := hrx.kept hB
      have HPT := hidd (HIP.out t _ w5 hA ht (by rw [ht.size]; omega))
      rw [HPP.out] at HPT
      clear hB ht HIF HIP
      go_wp2_with fail
      refine HPT.out.mono ?_
      rintro e w6 ⟨vq, rfl, o_q, hB⟩
      replace hA := bthen hA hB
      replace hrp := hrp.kept hB
      replace hrx := hrx.kept hB
      have hrq : RdP w6 vq P := o_q.rd
      clear hB o_q HPT
      go_wp2_with fail
      refine (HRU.out _ _ hrq).mono ?_
      rintro e w7 ⟨vl, rfl, o_l, hB⟩
      replace hA := bthen hA hB
      replace hrp := hrp.kept hB
      replace hrx := hrx.kept hB
      have hcl := owns_CapOk o_l
      have hrl := owns_RdI o_l
      clear hB o_l hrq HRU
      obtain ⟨la, lc, rfl⟩ := RdI_form hrl
      have hlc : xs.length ≤ lc := hcl _ _ _ rfl
      clear hcl
      go_wp2_with fail
      refine (c_ErrataOf_same _ _ xs _ hrx hrl (by omega) HTB.out).mono ?_
      rintro e w8 ⟨rfl, hB⟩
      replace hA := bthen hA hB
      replace hrp := hrp.kept hB
      replace hrx := hrx.kept hB
      replace hrl := hrl.kept hB
      clear hB
      go_wp2_with fail
      refine (HGP.out _ _ hrl (CapOk_of hlc)).mono ?_
      rintro e w9 ⟨vg, rfl, o_g, hB⟩
      replace hA := bthen hA hB
      replace hrp := hrp.kept hB
      replace hrx := hrx.kept hB
      replace hrl := hrl.kept hB
      have hrg := o_g.rd
      clear hB o_g HGP
      go_wp2_with fail
      refine (HCH.out _ _ hrx (CapOk_of hxc)).mono ?_
      rintro e w10 ⟨vc, rfl, o_c, hB⟩
      replace hA := bthen hA hB
      replace hrp := hrp.kept hB
      replace hrx := hrx.kept hB
      replace hrl := hrl.kept hB
      replace hrg := hrg.kept hB
      obtain ⟨ca, cc, rfl, _⟩ := o_c.rd.form
      rw [HCL.out]
      clear hB o_c HCH
      obtain ⟨pa, pc, rfl, _⟩ := hrp.form
      go_wp2
      go_loopw [19, 20, 21] (fun q i2 i wr => ∃ k at' : Nat, k ≤ P.length ∧ at' ≤ xs.length ∧ q = .bool true ∧ i2 = .int .i64 at' ∧ i = .int .i64 k ∧ Hid (RunPl D (xs.drop at') (P.drop k)) ∧ Below w10.heap.size w10 wr) (fun _ _ i _ => P.length - (intOf i).toNat)
      case atStart => exact ⟨0, 0, by omega, by omega, rfl, rfl, rfl, HRUN.out, Below.refl _ _⟩
      case round =>
        obtain ⟨k, at', hk, hat, rfl, rfl, rfl, HR, hB⟩ := hrel
        by_cases hlt : k < P.length
        · obtain ⟨b, o, qa, qn, qc, rfl, hb, e1, e2, e3, e4, e5⟩ := hrp.cell hB hlt
          clear e3 e4 e5
          obtain ⟨c, hc, hc1, hc2, hcr, hrn⟩ := run_at hlt HR.out
          have HRN := hidd hrn
          obtain ⟨htc, hzc⟩ := clean_of hcr hD6
          obtain ⟨A, g1, g2⟩ := sl_lh xa xs.length xc at' (at' + c) (by omega) (by omega) hxc
          have hry := g2 wr xs rfl (hrx.kept hB)
          rw [show at' + c - at' = c by omega] at g1 hry
          rw [List.drop_take, show at' + c - at' = c by omega] at hry
          rw [hc] at e1
          have HCT := hidd (c_CleanTable _ _ D wr hry htc hD6 hzc)
          push_cast at g1
          have i1 : (0 : Int) ≤ (k : Int) := by omega
          have i2 : (k : Int) < (P.length : Int) := by omega
          have j1 : (0 : Int) ≤ (at' : Int) := by omega
          have hc60 : c ≤ 61 := by omega
          clear hry hcr hrn htc hzc g2 hc e2 HR
          go_wp2_with fail
          refine HCT.out.mono ?_
          rintro e w11 ⟨rfl, hB11⟩
          have f1 := ((bcell hB11).1 _ _ (by have := hB.size; omega)).trans e1
          have HB := hidd (bthen hB hB11)
          clear hB hB11 e1 HCT
          go_wp2
          go_roundw
          case rel => exact ⟨k + 1, at' + c, by omega, hc2, rfl, by go_num, by go_num, HRN, HB.out⟩
          case measure => simp [intOf]; omega
        · obtain rfl : k = P.length := by omega
          have hA2 := bthen hA hB
          replace hrp := hrp.kept hB
          replace hrx := hrx.kept hB
          replace hrl := hrl.kept hB
          replace hrg := hrg.kept hB
          clear hB hlt hk HR
          go_wp2_with fail
          refine (c_deInts_t _ _ xs _ hrl hrx (by omega)).mono ?_
          rintro e w11 ⟨rfl, hB⟩
          replace hA2 := bthen hA2 hB
          replace hrp := hrp.kept hB
          replace hrg := hrg.kept hB
          clear hB hrl hrx
          go_wp2_with fail
          refine (HDP.out _ _ _ hrg hrp).mono ?_
          rintro e w12 ⟨rfl, hB⟩
          replace hA2 := bthen hA2 hB
          clear hB hrg hrp
          go_wp2
          go_ret
          exact ⟨rfl, hA2⟩

set_option maxRecDepth 100000 in
theorem lifted_FnWholePlan (os : Os) (started : os.Started) (H : Type) (enc : TypeId × Value → H) :
    ReturnsInHanded {} Tryz.checked os 4 .any (fun w args => (Rows.fnWholePlanSpec.pre enc Tryz.prog Tryz.f4 [] false w args ∧ laidMetH Tryz.prog Rows.fnWholePlanRow.laid w) ∧ sizedMet enc Tryz.prog Tryz.f4 (OpenSpec.ofChange Rows.fnWholePlanSpec) false w args)
      (Rows.fnWholePlanSpec.post enc Tryz.prog Tryz.f4 false true false false) := by
  refine handed_shaped (C := Tryz.checked) (X := fun w _ => laidMetH Tryz.prog Rows.fnWholePlanRow.laid w) (fun _ _ _ hh h => h.of_heap hh) own started (by kernel_rfl) Tryz.func4
    (ChangeSpec.witness_shaped (enc := enc) (C := Tryz.checked) (os := os) (X := fun w _ => laidMetH Tryz.prog Rows.fnWholePlanRow.laid w) false (World.laidAll Tryz.prog os Rows.fnWholePlanRow.laid) #[.slice none 0 0] 8 (World.laidAll_os _ _ _)
      (World.shaped_of_ZipB (by kernel_rfl) (by kernel_rfl)) (by kernel_rfl) (by kernel_rfl) (by kernel_rfl) (by rw [MakeChecks.laidMetH_plain _ _ _ (by kernel_rfl)]; exact laidMet_laidAll _ (by kernel_rfl) (by kernel_rfl))) ?_
  intro W base args ds gs before hval0 hW hL hsh
  have hval : ∀ (j : Nat) t v, Tryz.f4.params[j]? = some t → args[j]? = some v → Value.okWide Tryz.prog W .any base t v := hval0
  have htab : TabW W := TabW.of_laid (by kernel_rfl) hL
  have herr : ErrW W := ErrW.of_laid (by kernel_rfl) hL
  have hmax : MaxW W := MaxW.of_shaped hsh
  have hW' := hW
  obtain ⟨p, q, hA0, hV, rfl, hfz, hnd⟩ := hW
  have hA : DataW.TrodAll enc Tryz.prog W 0 (fun _ => true) true Tryz.f4.params.toList args.toList ds p := hA0
  rw [Tryz.params4] at hA hval
  obtain ⟨v0, vs0, d0, ds0, p0, q0, hargs, rfl, rfl, h0, r0⟩ := trodAll_cons hA
  obtain ⟨rfl, rfl, rfl⟩ := trodAll_nil r0
  obtain rfl : args = #[v0] := by cases args; simp_all
  obtain ⟨rfl, rfl⟩ := trodVars_none hV
  obtain ⟨l0, w0⟩ := open_bytes (hval 0 22 v0 rfl rfl) h0
  refine (walk_FnWholePlan v0 l0 w0 htab herr hmax).mono fun e W' ⟨he, hg⟩ => ?_
  subst he
  exact ⟨_, rfl, law_post laidOut hW' rfl (by kernel_rfl) rfl Tryz.underlying4 rfl rfl rfl rfl hg⟩
theorem factA_FnWholePlan : factsA Tryz.prog 4 Tryz.f4 Rows.fnWholePlanSpec Rows.fnWholePlanRow = true := by kernel_rfl
theorem fact9_FnWholePlan : (Rows.fnWholePlanRow.inPlace == Tryz.prog.inPlace 4) = true := by kernel_rfl
theorem fact10_FnWholePlan : (Rows.fnWholePlanRow.unfollowed == Tryz.prog.unfollowed 4) = true := by kernel_rfl
theorem fact11_FnWholePlan : (Rows.fnWholePlanRow.recurses == Tryz.prog.recurses 4) = true := by kernel_rfl
theorem fact12_FnWholePlan : (Rows.fnWholePlanRow.named == Tryz.prog.varsNamed 4) = true := by kernel_rfl
theorem factB_FnWholePlan : factsB Tryz.prog 4 Tryz.f4 Rows.fnWholePlanSpec Rows.fnWholePlanRow = true := by kernel_rfl
theorem factN_FnWholePlan : Tryz.prog.funcNamed Rows.fnWholePlanRow.func = some 4 := by kernel_rfl
theorem proved_FnWholePlan : Rows.FnWholePlanSaid :=
  OpenClaim.holds_of_wide 4 Tryz.f4 rfl rfl rfl rfl rfl rfl rfl ⟨rfl, rfl, rfl, rfl, rfl⟩ rfl rfl rfl rfl rfl factN_FnWholePlan Tryz.func4 (closed_of factA_FnWholePlan fact9_FnWholePlan fact10_FnWholePlan fact11_FnWholePlan fact12_FnWholePlan factB_FnWholePlan rfl rfl rfl)
    (of_decide_eq_true (by kernel_rfl)) (by unfold Func.isWrapper; first | (rw [if_pos (by decide +kernel)]; kernel_rfl) | (rw [if_neg (by decide +kernel)]; exact ⟨rfl, rfl⟩))
    (fun os started H enc _ => lifted_FnWholePlan os started H enc)
theorem card_FnWholePlan : Rows.FnWholePlanCardSaid :=
  Claim7.holds_tied_plain_at .later [] [.data, .data, .data, .data, .sentinel, .sentinel, .pinned] true (true, "ea64c503bda052fc1e57271ce2bf915fed8b91233bed33fc3305e3826b550267") true
    proved_FnWholePlan (fun _ h => by cases h) (by kernel_rfl) (fun _ h => by cases h) fnWholePlan_row_tie rfl ⟨rfl, rfl⟩ (by kernel_rfl) rfl
    (fun f fn hf hfn => by
      obtain rfl : f = 4 := Option.some.inj (factN_FnWholePlan.symm.trans hf) |>.symm
      obtain rfl : fn = Tryz.f4 := (Option.some.inj (Tryz.func4.symm.trans hfn)).symm
      exact ⟨by kernel_rfl, fun j t ht => by
        rw [Tryz.params4] at ht
        have hm : t ∈ [22] := by simpa using Array.mem_of_getElem? ht
        have hall : ([22].all fun u => !Tryz.prog.wantsStandIn u) = true := by kernel_rfl
        exact (show Tryz.prog.wantsStandIn t = false by simpa using List.all_eq_true.1 hall t hm)⟩)
    (by kernel_rfl)
end Go.Proofs.YtdfnclnjnmdboaaGreatDoor
