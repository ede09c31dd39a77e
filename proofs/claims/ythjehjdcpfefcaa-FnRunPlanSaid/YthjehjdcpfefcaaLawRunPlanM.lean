/- FnRunPlan: the results of the engines of a plan are its values wherever these have a column of the width. No condition. -/
import Derived.Test.YthjehjdcpfefcaaMRunPlanEng9
import Derived.Test.YthjehjdcpfefcaaMRunPlanDrW5
import Derived.Test.YthjehjdcpfefcaaDeI
import Derived.Test.YthjehjdcpfefcaaPvP
namespace Go.Proofs.Ythjehjdcpfefcaa
set_option linter.unusedVariables false
open Go.ChangeShapes Go.WideShapes Go.ChangeAt Go.RowKit

theorem rnB_iff {pl : List Seg} {W : Int} (h : rnB pl W = true) : planB pl = true ∧ (∀ s ∈ pl, suB s.2 W = true) := by
  unfold rnB at h
  rw [Bool.and_eq_true, List.all_eq_true] at h
  exact h
theorem rnB_w {pl : List Seg} {W : Int} (h : rnB pl W = true) : 1 ≤ W ∧ W ≤ 12 := by
  obtain ⟨h1, h2⟩ := rnB_iff h
  obtain ⟨h3, h4, _⟩ := planB_iff.1 h1
  cases pl with
  | nil => have := (planB_iff.1 h1).1; simp at this
  | cons s l =>
    have h5 := h2 s (by simp)
    have h6 := (valOk_of h4 s (by simp)).2.2
    have h7 := (polyB_iff h6).1
    unfold suB at h5
    rw [List.all_eq_true] at h5
    exact inB_iff.1 (okC_iff (h5 s.2[0] (List.getElem_mem (by omega)))).1
theorem wfN_le (n : Int) : ∀ f k, wfN n f k ≤ k + f
  | 0, k => by simp [wfN]
  | f + 1, k => by
    unfold wfN
    split
    · omega
    · have := wfN_le n f (k + 1); omega
theorem wfF_le (n : Int) : wfF n ≤ 13 := wfN_le n 12 1
/-- an entry of the results against the one of the values -/
theorem rn_at {pl : List Seg} {W : Int} (h : rnB pl W = true) {k : Nat} (hk : k < (plV pl).length) :
    k < (rnV W pl).length ∧ (((rnV W pl).getD k 0 = (plV pl).getD k 0 ∧ 0 < wfF ((plV pl).getD k 0) ∧ (wfF ((plV pl).getD k 0) : Int) ≤ W) ∨ ((rnV W pl).getD k 0 ≠ (plV pl).getD k 0 ∧ (wfF ((plV pl).getD k 0) = 0 ∨ W < (wfF ((plV pl).getD k 0) : Int)))) := by
  obtain ⟨w1, w2⟩ := rnB_w h
  have e : (rnV W pl).getD k 0 = sg W.toNat ((plV pl).getD k 0) := by
    rw [rnV_map]; simp [List.getD, hk]
  refine ⟨by rw [rnV_len]; exact hk, ?_⟩
  rw [e]
  generalize (plV pl).getD k 0 = y
  have h1 := sg_fit (W := W.toNat) (v := y) (by omega)
  have h2 := wfF_iff y (W := W.toNat) (by omega) (by omega)
  cases hf : fitB y W.toNat
  · right
    refine ⟨fun q => (by rw [h1.1 q] at hf; cases hf), ?_⟩
    by_cases h3 : wfF y = 0
    · exact .inl h3
    · right
      have : ¬ (wfF y ≤ W.toNat) := fun q => by rw [h2.1 ⟨by omega, q⟩] at hf; cases hf
      omega
  · left
    obtain ⟨a, b⟩ := h2.2 hf
    exact ⟨h1.2 hf, a, by omega⟩
set_option maxHeartbeats 4000000 in
set_option maxRecDepth 100000 in
theorem walk_FnRunPlan (v : Value) (cs : List Int) {w : World} (hw : RdL w v (cs.map (Value.int .u8)) ∧ cs.length ≤ 9223372036854775807 ∧ (∀ n ∈ cs, (Lit.int .u8 n).wf = true) ∧ CapOk v) :
    Calls Try.prog 4 #[v] w fun e w' => e = .returned (.bool true) ∧ Below w.heap.size w w' := by
  obtain ⟨hR, hlen, hwf, hcap⟩ := hw
  have hR0 := hR
  obtain ⟨a, cap, rfl, hR1⟩ := hR0
  clear hR1
  simp only [List.length_map] at hR hcap ⊢
  by_cases hbig : 1048576 < cs.length
  · clear hR hcap hwf
    go_enter Try.func4, Try.ntmps4
    go_wp2
    go_ret
    exact ⟨rfl, Below.refl _ _⟩
  · go_enter Try.func4, Try.ntmps4
    go_wp2_with fail
    refine (c_DrawRunPlan _ cs w hR (by omega) hwf hcap).mono ?_
    rintro e w1 ⟨vp, pl, W, rfl, o_p, hd, hA⟩
    have hpl62 := hd.1
    have HM : Hid (∀ s ∈ pl, s.2.length ≤ 7) := hd.2
    have hrp := o_p.rd
    clear hR hwf hcap o_p hd
    have HPX : Hid (∀ s ∈ pl, s.2.length ≤ 1099511627776) := fun s hs => by have := HM.out s hs; omega
    obtain ⟨pa, pc, rfl, _⟩ := hrp.form
    go_wp2_with fail
    refine (c_RunPlan _ pl W w1 hrp (by omega) HPX.out).mono ?_
    rintro e w2 ⟨vv, rfl, o_v, hB⟩
    replace hA := bthen hA hB
    replace hrp := hrp.kept hB
    clear hB
    go_wp2_with fail
    refine (c_sRunPlan _ pl W w2 hrp (by omega) HPX.out).mono ?_
    rintro e w3 ⟨vs, rfl, o_s, hB⟩
    replace hA := bthen hA hB
    replace hrp := hrp.kept hB
    replace o_v := ownsRow_kept_below o_v hB
    clear hB
    cases hv : rnB pl W
    · have HL : Hid (rnL pl W = []) := if_neg (by rw [hv]; decide)
      rw [HL.out] at o_v o_s
      clear hv hrp
      go_wp2_with fail
      refine (k_de_ints _ _ _ _ [] _ o_v o_s (by simp)).mono ?_
      rintro e w4 ⟨rfl, hB⟩
      replace o_v := ownsRow_kept_below o_v hB
      replace o_s := ownsRow_kept_below o_s hB
      replace hA := bthen hA hB
      clear hB
      go_wp2_with fail
      refine (k_de_ints _ _ _ _ [] _ o_v o_s (by simp)).mono ?_
      rintro e w5 ⟨rfl, hB⟩
      replace hA := bthen hA hB
      clear hB o_v o_s
      go_wp2
      go_ret
      exact ⟨rfl, hA⟩
    · have HL : Hid (rnL pl W = rnV W pl) := if_pos hv
      have hpb := (rnB_iff hv).1
      have hw1 := (rnB_w hv).1
      have HP : Hid (pvL pl = plV pl) := if_pos hpb
      have HAT : Hid (∀ k, k < (plV pl).length → _) := fun k hk => rn_at hv hk
      have hll : (plV pl).length ≤ 60 := (tabB_iff (plV_tab hpb)).2.1
      have hle := rnV_len W pl
      have hpv := c_impl_PlanValues (.slice pa pl.length pc) pl
      rw [hpb, HP.out] at hpv
      rw [HL.out] at o_v o_s
      have HPV : Hid (∀ W', RdP W' (.slice pa pl.length pc) pl → Calls Try.prog 15 #[.slice pa pl.length pc] W' (FreshIB W' (plV pl) true)) := fun W' h => hpv W' h (by omega) HPX.out
      clear hv hpb hpv
      go_wp2_with fail
      refine (k_de_ints _ _ _ _ (rnV W pl) _ o_v o_s (by omega)).mono ?_
      rintro e w4 ⟨rfl, hB⟩
      replace o_v := ownsRow_kept_below o_v hB
      replace hrp := hrp.kept hB
      replace hA := bthen hA hB
      clear hB o_s
      go_wp2_with fail
      refine (HPV.out _ hrp).mono ?_
      rintro e w5 ⟨vx, rfl, o_x, hB⟩
      replace o_v := ownsRow_kept_below o_v hB
      replace hA := bthen hA hB
      have hrv := owns_RdI o_v
      have hrx := owns_RdI o_x
      clear hB hrp o_v o_x HPV
      obtain ⟨va, vc, rfl⟩ := RdI_form hrv
      obtain ⟨xa, xc, rfl⟩ := RdI_form hrx
      rw [hle] at hrv ⊢
      generalize plV pl = V at *
      generalize rnV W pl = R at *
      have HA := hidd hA
      clear hA
      go_wp2
      go_loopw [11] (fun i wr => ∃ k : Nat, k ≤ V.length ∧ i = .int .i64 k ∧ Below w5.heap.size w5 wr) (fun i _ => V.length - (intOf i).toNat)
      case atStart => exact ⟨0, by omega, rfl, Below.refl _ _⟩
      case round =>
        obtain ⟨k, hk, rfl, hB⟩ := hrel
        by_cases hlt : k < V.length
        · obtain ⟨r1, r2⟩ := HAT.out k hlt
          obtain ⟨bv, ov, rfl, hbv, e1⟩ := RdI_cell hrv hB r1
          obtain ⟨bx, ox, rfl, hbx, e2⟩ := RdI_cell hrx hB hlt
          have i1 : (0 : Int) ≤ (k : Int) := by omega
          have i2 : (k : Int) < (V.length : Int) := by omega
          obtain ⟨y, hy⟩ : ∃ y, V.getD k 0 = y := ⟨_, rfl⟩
          obtain ⟨x, hx⟩ : ∃ x, R.getD k 0 = x := ⟨_, rfl⟩
          rw [hy] at e2 r2
          rw [hx] at e1 r2
          have HWF := hidd (c_WidthFor y)
          obtain ⟨t, ht⟩ : ∃ t, wfF y = t := ⟨_, rfl⟩
          rw [ht] at HWF r2
          have ht13 : t ≤ 13 := by rw [← ht]; exact wfF_le y
          clear hy hx ht hrv hrx r1
          go_wp2_with fail
          refine (HWF.out wr).mono ?_
          rintro e w6 ⟨rfl, hB6⟩
          have f1 := ((bcell hB6).1 _ _ (by have := hB.size; omega)).trans e1
          have f2 := ((bcell hB6).1 _ _ (by have := hB.size; omega)).trans e2
          have HBn : Hid (∀ q, Below w5.heap.size w5 (w6.drewN q)) := fun q => below_drewN (bthen hB hB6) q
          clear hB hB6 e1 e2
          clear HAT HWF HL HP HPX HM
          rcases r2 with ⟨rfl, t1, t2⟩ | ⟨n1, t1 | t1⟩
          · have g1 : (0 : Int) < (t : Int) := by omega
            go_wp2
            go_quiet (fail)
            go_wp2
            go_roundw
            case rel => exact ⟨k + 1, by omega, by go_num, HBn.out _⟩
            case measure => simp [intOf]; omega
          · subst t1
            have hxy : (x == y) = false := beq_eq_false_iff_ne.2 n1
            go_wp2
            go_quiet (fail)
            go_wp2
            go_roundw
            case rel => exact ⟨k + 1, by omega, by go_num, HBn.out _⟩
            case measure => simp [intOf]; omega
          · have hxy : (x == y) = false := beq_eq_false_iff_ne.2 n1
            have g1 : ¬ ((t : Int) ≤ W) := by omega
            have g2 : (0 : Int) < (t : Int) := by omega
            have g3 : 0 < t := by omega
            go_wp2
            go_quiet (fail)
            go_wp2
            go_roundw
            case rel => exact ⟨k + 1, by omega, by go_num, HBn.out _⟩
            case measure => simp [intOf]; omega
        · obtain rfl : k = V.length := by omega
          have HF : Hid (Below w.heap.size w wr) := bthen HA.out hB
          clear hlt hk hB hrv hrx HAT
          go_wp2
          go_ret
          exact ⟨rfl, HF.out⟩

set_option maxRecDepth 100000 in
theorem lifted_FnRunPlan (os : Os) (started : os.Started) (H : Type) (enc : TypeId × Value → H) :
    ReturnsInHanded {} Try.checked os 4 .any (Rows.fnRunPlanSpec.pre6 enc Try.prog Try.f4 Rows.fnRunPlanRow.domain false) (Rows.fnRunPlanSpec.post enc Try.prog Try.f4 false true false false) := by
  refine returnsInHanded_of_change (C := Try.checked) own started (by kernel_rfl) Try.func4
    (ChangeSpec.witness6 (enc := enc) (C := Try.checked) false ⟨#[], #[.slice none 0 0], []⟩ 8 (by kernel_rfl) (by kernel_rfl) (by kernel_rfl) (by kernel_rfl)) ?_
  intro W base args ds gs before hval0 hW hcnd _
  have hval : ∀ (j : Nat) t v, Try.f4.params[j]? = some t → args[j]? = some v → Value.okWide Try.prog W .any base t v := hval0
  have hW' := hW
  obtain ⟨p, q, hA0, hV, rfl, hfz, hnd⟩ := hW
  have hA : DataW.TrodAll enc Try.prog W 0 (fun _ => true) true Try.f4.params.toList args.toList ds p := hA0
  rw [Try.params4] at hA hval
  obtain ⟨v0, vs0, d0, ds0, p0, q0, hargs, rfl, rfl, h0, r0⟩ := trodAll_cons hA
  obtain ⟨rfl, rfl, rfl⟩ := trodAll_nil r0
  obtain rfl : args = #[v0] := by cases args; simp_all
  obtain ⟨rfl, rfl⟩ := trodVars_none hV
  obtain ⟨l0, w0⟩ := open_bytes (hval 0 29 v0 rfl rfl) h0
  refine (walk_FnRunPlan v0 l0 w0).mono fun e W' ⟨he, hg⟩ => ?_
  subst he
  exact ⟨_, rfl, law_post laidOut hW' rfl (by kernel_rfl) rfl Try.underlying4 rfl rfl rfl rfl hg⟩
theorem factA_FnRunPlan : factsA Try.prog 4 Try.f4 Rows.fnRunPlanSpec Rows.fnRunPlanRow = true := by kernel_rfl
theorem fact9_FnRunPlan : (Rows.fnRunPlanRow.inPlace == Try.prog.inPlace 4) = true := by kernel_rfl
theorem fact10_FnRunPlan : (Rows.fnRunPlanRow.unfollowed == Try.prog.unfollowed 4) = true := by kernel_rfl
theorem fact11_FnRunPlan : (Rows.fnRunPlanRow.recurses == Try.prog.recurses 4) = true := by kernel_rfl
theorem fact12_FnRunPlan : (Rows.fnRunPlanRow.named == Try.prog.varsNamed 4) = true := by kernel_rfl
theorem factB_FnRunPlan : factsB Try.prog 4 Try.f4 Rows.fnRunPlanSpec Rows.fnRunPlanRow = true := by kernel_rfl
theorem factN_FnRunPlan : Try.prog.funcNamed Rows.fnRunPlanRow.func = some 4 := by kernel_rfl
theorem proved_FnRunPlan : Rows.FnRunPlanSaid :=
  OpenClaim.holds_of_wide 4 Try.f4 rfl rfl rfl rfl rfl rfl rfl ⟨rfl, rfl, rfl, rfl, rfl⟩ rfl rfl rfl rfl rfl factN_FnRunPlan Try.func4 (closed_of factA_FnRunPlan fact9_FnRunPlan fact10_FnRunPlan fact11_FnRunPlan fact12_FnRunPlan factB_FnRunPlan rfl rfl rfl)
    (of_decide_eq_true (by kernel_rfl)) (by unfold Func.isWrapper; first | (rw [if_pos (by decide +kernel)]; kernel_rfl) | (rw [if_neg (by decide +kernel)]; exact ⟨rfl, rfl⟩))
    (fun os started H enc _ => lifted_FnRunPlan os started H enc)
end Go.Proofs.Ythjehjdcpfefcaa
