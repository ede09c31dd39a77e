/- FnPlanWheels: a plan of one segment sets no wheel between segments, and neither does it when the segment is split. No condition. -/
import Derived.Test.YthjehjdcpfefcaaMPlanWheelsEng13
import Derived.Test.YthjehjdcpfefcaaMPlanWheelsDrW5
import Derived.Test.YthjehjdcpfefcaaMPlanWheelsPlan9
namespace Go.Proofs.Ythjehjdcpfefcaa
set_option linter.unusedVariables false
open Go.ChangeShapes Go.WideShapes Go.ChangeAt Go.RowKit

theorem rnB_iff {pl : List Seg} {W : Int} (h : rnB pl W = true) : planB pl = true ∧ (∀ s ∈ pl, suB s.2 W = true) := by
  unfold rnB at h
  rw [Bool.and_eq_true, List.all_eq_true] at h
  exact h
theorem rnB_w {pl : List Seg} {W : Int} (h : rnB pl W = true) : 1 ≤ W ∧ W ≤ 12 := by
  obtain ⟨h1, h2⟩ := rnB_iff h
  obtain ⟨h3, h4, _⟩ := planB_iff.1 h1
  cases pl with
  | nil => have := (planB_iff.1 h1).1; simp at this
  | cons s l =>
    have h5 := h2 s (by simp)
    have h6 := (valOk_of h4 s (by simp)).2.2
    have h7 := (polyB_iff h6).1
    unfold suB at h5
    rw [List.all_eq_true] at h5
    exact inB_iff.1 (okC_iff (h5 s.2[0] (List.getElem_mem (by omega)))).1
theorem padP_self (p : List Int) : padP p p.length = p := by simp [padP]
theorem wh_one {pl : List Seg} {W : Int} (h1 : pl.length = 1) (h : whB pl W = true) : whF pl W = 0 := by
  unfold whF
  rw [if_pos h, h1]
  rfl
theorem wh_split {pl : List Seg} {W t : Int} (h1 : pl.length = 1) (hs : spB pl 0 t = true) (hr : rnB (spL pl 0 t) W = true) : whF (spL pl 0 t) W = 0 := by
  match pl, h1 with
  | [(c, p)], _ =>
    have e : spL [(c, p)] 0 t = [((t.toNat : Int), p), (c - t.toNat, shf p t.toNat)] := by
      unfold spL; rw [if_pos hs]; rfl
    rw [e] at hr ⊢
    obtain ⟨hp, hsu⟩ := rnB_iff hr
    have hw := rnB_w hr
    have hl : lngN [((t.toNat : Int), p), (c - t.toNat, shf p t.toNat)] = p.length := by
      simp only [lngN, shf_len]; omega
    have hW : inB W 1 12 = true := inB_t hw.1 hw.2
    have q0 := hsu _ (List.mem_cons_self ..)
    have q1 := hsu _ (List.mem_cons_of_mem _ (List.mem_cons_self ..))
    have e2 : padP (shf p t.toNat) p.length = shf p t.toNat := by
      have := padP_self (shf p t.toNat); rwa [shf_len] at this
    rw [wh_yes hp hW (fun i hi => by
      rw [hl]
      match i, hi with
      | 0, _ => show suB (padP p p.length) W = true; rw [padP_self]; exact q0
      | 1, _ => show suB (padP (shf p t.toNat) p.length) W = true; rw [e2]; exact q1)]
    rw [hl]
    show ((0 + 0 + difE (cols W.toNat (trnN ((t.toNat : Int)).toNat (padP p p.length))) (cols W.toNat (padP (shf p t.toNat) p.length)) p.length : Nat) : Int) = 0
    rw [Int.toNat_natCast, padP_self, e2, trnN_poly, difE_self]
    rfl
set_option maxHeartbeats 4000000 in
set_option maxRecDepth 100000 in
theorem walk_FnPlanWheels (v1 : Value) (cs : List Int) {w : World} (hw : RdL w v1 (cs.map (Value.int .u8)) ∧ cs.length ≤ 9223372036854775807 ∧ (∀ n ∈ cs, (Lit.int .u8 n).wf = true) ∧ CapOk v1)
    (v2 : Value) (ds : List Int) (hw2 : RdL w v2 (ds.map (Value.int .u8)) ∧ ds.length ≤ 9223372036854775807 ∧ (∀ n ∈ ds, (Lit.int .u8 n).wf = true) ∧ CapOk v2) :
    Calls Try.prog 5 #[v1, v2] w fun e w' => e = .returned (.bool true) ∧ Below w.heap.size w w' := by
  obtain ⟨hR, hlen, hwf, hcap⟩ := hw
  obtain ⟨⟨a2, cap2, rfl, -⟩, hlen2, -, -⟩ := hw2
  have hR0 := hR
  obtain ⟨a, cap, rfl, hR1⟩ := hR0
  clear hR1
  simp only [List.length_map] at hR hcap ⊢
  generalize ds.length = L at *
  by_cases hbig : 1048576 < cs.length
  · clear hR hcap hwf
    go_enter Try.func5, Try.ntmps5
    go_wp2
    go_ret
    exact ⟨rfl, Below.refl _ _⟩
  by_cases hbig2 : 1048576 < L
  · clear hR hcap hwf
    go_enter Try.func5, Try.ntmps5
    go_wp2
    go_ret
    exact ⟨rfl, Below.refl _ _⟩
  go_enter Try.func5, Try.ntmps5
  go_wp2_with fail
  refine (c_DrawPlanWheels _ cs w hR (by omega) hwf hcap).mono ?_
  rintro e w1 ⟨vp, pl, W, rfl, o_p, hd, hA⟩
  have hpl62 := hd.1
  have HM : Hid (∀ s ∈ pl, s.2.length ≤ 7) := hd.2
  have hrp := o_p.rd
  clear hR hwf hcap o_p hd
  have HPX : Hid (∀ s ∈ pl, s.2.length ≤ 1099511627776) := fun s hs => by have := HM.out s hs; omega
  obtain ⟨pa, pc, rfl, _⟩ := hrp.form
  have HI : Hid (∀ W', RdP W' (.slice pa pl.length pc) pl → Calls Try.prog 9 #[.slice pa pl.length pc, (.int .i64 (W))] W' fun e w' => e = .returned (.int .i64 (whF pl W)) ∧ Below W'.heap.size W' w') := fun W' h => c_PlanWheels _ pl W W' h (by omega) HPX.out
  have HS : Hid (∀ W', RdP W' (.slice pa pl.length pc) pl → Calls Try.prog 7 #[.slice pa pl.length pc, (.int .i64 (W))] W' fun e w' => e = .returned (.int .i64 (whF pl W)) ∧ Below W'.heap.size W' w') := fun W' h => c_sPlanWheels _ pl W W' h (by omega) HPX.out
  cases hv : whB pl W
  · have e0 : whF pl W = -1 := by unfold whF; rw [hv]; rfl
    rw [e0] at HI HS
    clear hv e0
    go_wp2_with fail
    refine (HI.out _ hrp).mono ?_
    rintro e w2 ⟨rfl, hB⟩
    replace hA := bthen hA hB
    replace hrp := hrp.kept hB
    clear hB
    go_wp2_with fail
    refine (HS.out _ hrp).mono ?_
    rintro e w3 ⟨rfl, hB⟩
    replace hA := bthen hA hB
    replace hrp := hrp.kept hB
    clear hB
    go_wp2_with fail
    refine (HS.out _ hrp).mono ?_
    rintro e w4 ⟨rfl, hB⟩
    replace hA := bthen hA hB
    clear hB hrp
    go_wp2
    go_ret
    exact ⟨rfl, hA⟩
  · have HV := hidd hv
    have hpb : planB pl = true := by unfold whB at hv; simp only [Bool.and_eq_true] at hv; exact hv.1.1
    have hl1 : 1 ≤ pl.length := (planB_iff.1 hpb).1
    have e0 : ∃ n : Nat, whF pl W = n := ⟨_, by unfold whF; rw [if_pos hv]⟩
    obtain ⟨n, hn⟩ := e0
    have HN := hidd hn
    rw [hn] at HI HS
    have hn0 : ¬ ((n : Int) < 0) := by omega
    have hdiv : ((pl.length : Int) = 0) = False := eq_false (by omega)
    clear hv hn hpb
    go_wp2_with fail
    refine (HI.out _ hrp).mono ?_
    rintro e w2 ⟨rfl, hB⟩
    replace hA := bthen hA hB
    replace hrp := hrp.kept hB
    clear hB
    go_wp2_with fail
    refine (HS.out _ hrp).mono ?_
    rintro e w3 ⟨rfl, hB⟩
    replace hA := bthen hA hB
    replace hrp := hrp.kept hB
    clear hB
    obtain ⟨I, hI⟩ : ∃ I, (L : Int) % (pl.length : Int) = I := ⟨_, rfl⟩
    obtain ⟨T, hT⟩ : ∃ T, 1 + (L : Int) / 3 % 4 = T := ⟨_, rfl⟩
    have hI0 : 0 ≤ I := by rw [← hI]; exact Int.emod_nonneg _ (by omega)
    have hI1 : I < pl.length := by rw [← hI]; exact Int.emod_lt_of_pos _ (by omega)
    have HII := hidd hI
    have HTT := hidd hT
    clear hI hT
    go_wp2_with fail
    rw [HII.out, HTT.out]
    refine (c_impl_SplitSegment _ pl I T _ hrp (by omega) HPX.out (by omega) (by omega)).mono ?_
    rintro e w4 ⟨vx, rfl, o_x, hB⟩
    replace hA := bthen hA hB
    have hll := spL_len pl I T
    have HLM := hidd (spL_mem I T HM.out)
    have HQX : Hid (∀ s ∈ spL pl I T, s.2.length ≤ 1099511627776) := fun s hs => by have := HLM.out s hs; omega
    have hrx := o_x.rd
    obtain ⟨xa, xc, rfl, _⟩ := hrx.form
    have HWX : Hid (∀ W', RdP W' (.slice xa (spL pl I T).length xc) (spL pl I T) → Calls Try.prog 9 #[.slice xa (spL pl I T).length xc, (.int .i64 (W))] W' fun e w' => e = .returned (.int .i64 (whF (spL pl I T) W)) ∧ Below W'.heap.size W' w') := fun W' h => c_PlanWheels _ _ W W' h (by omega) HQX.out
    have hfin : pl.length = 1 → n = 0 ∧ (spB pl I T = true → rnB (spL pl I T) W = true → whF (spL pl I T) W = 0) := fun h => by
      have hI0' : I = 0 := by omega
      subst hI0'
      have := wh_one h HV.out
      rw [HN.out] at this
      exact ⟨by omega, fun h1 h2 => wh_split h h1 h2⟩
    clear hB o_x hrp HI HS
    go_wp2_with fail
    refine (c_RunPlan _ (spL pl I T) W _ hrx (by omega) HQX.out).mono ?_
    rintro e w5 ⟨vr, rfl, o_r, hB⟩
    replace hA := bthen hA hB
    replace hrx := hrx.kept hB
    clear hB o_r
    by_cases h1 : 1 < pl.length
    · have h1' : (1 : Int) < (pl.length : Int) := by omega
      clear hfin hrx HWX
      go_wp2
      go_ret
      exact ⟨rfl, hA⟩
    · have hp1 : pl.length = 1 := by omega
      obtain ⟨rfl, hf⟩ := hfin hp1
      have HF := hidd hf
      have h1' : ¬ ((1 : Int) < (pl.length : Int)) := by omega
      clear hfin hf
      cases hb1 : spB pl I T
      · clear hrx HWX HF
        go_wp2
        go_ret
        exact ⟨rfl, hA⟩
      · cases hb2 : rnB (spL pl I T) W
        · clear hrx HWX HF
          go_wp2
          go_ret
          exact ⟨rfl, hA⟩
        · have hz := HF.out hb1 hb2
          rw [hz] at HWX
          go_wp2_with fail
          refine (HWX.out _ hrx).mono ?_
          rintro e w6 ⟨rfl, hB⟩
          replace hA := bthen hA hB
          clear hB hrx
          go_wp2
          go_ret
          exact ⟨rfl, hA⟩

set_option maxRecDepth 100000 in
theorem lifted_FnPlanWheels (os : Os) (started : os.Started) (H : Type) (enc : TypeId × Value → H) :
    ReturnsInHanded {} Try.checked os 5 .any (Rows.fnPlanWheelsSpec.pre6 enc Try.prog Try.f5 Rows.fnPlanWheelsRow.domain false) (Rows.fnPlanWheelsSpec.post enc Try.prog Try.f5 false true false false) := by
  refine returnsInHanded_of_change (C := Try.checked) own started (by kernel_rfl) Try.func5
    (ChangeSpec.witness6 (enc := enc) (C := Try.checked) false ⟨#[], #[.slice none 0 0, .slice none 0 0], []⟩ 8 (by kernel_rfl) (by kernel_rfl) (by kernel_rfl) (by kernel_rfl)) ?_
  intro W base args ds gs before hval0 hW hcnd _
  have hval : ∀ (j : Nat) t v, Try.f5.params[j]? = some t → args[j]? = some v → Value.okWide Try.prog W .any base t v := hval0
  have hW' := hW
  obtain ⟨p, q, hA0, hV, rfl, hfz, hnd⟩ := hW
  have hA : DataW.TrodAll enc Try.prog W 0 (fun _ => true) true Try.f5.params.toList args.toList ds p := hA0
  rw [Try.params5] at hA hval
  obtain ⟨v0, vs0, d0, ds0, p0, q0, hargs, rfl, rfl, h0, r0⟩ := trodAll_cons hA
  obtain ⟨v1, vs1, d1, ds1, p1, q1, rfl, rfl, rfl, h1, r1⟩ := trodAll_cons r0
  obtain ⟨rfl, rfl, rfl⟩ := trodAll_nil r1
  obtain rfl : args = #[v0, v1] := by cases args; simp_all
  obtain ⟨rfl, rfl⟩ := trodVars_none hV
  obtain ⟨l0, w0⟩ := open_bytes (hval 0 29 v0 rfl rfl) h0
  obtain ⟨l1, w1⟩ := open_bytes (hval 1 29 v1 rfl rfl) h1
  refine (walk_FnPlanWheels v0 l0 w0 v1 l1 w1).mono fun e W' ⟨he, hg⟩ => ?_
  subst he
  exact ⟨_, rfl, law_post laidOut hW' rfl (by kernel_rfl) rfl Try.underlying4 rfl rfl rfl rfl hg⟩
theorem factA_FnPlanWheels : factsA Try.prog 5 Try.f5 Rows.fnPlanWheelsSpec Rows.fnPlanWheelsRow = true := by kernel_rfl
theorem fact9_FnPlanWheels : (Rows.fnPlanWheelsRow.inPlace == Try.prog.inPlace 5) = true := by kernel_rfl
theorem fact10_FnPlanWheels : (Rows.fnPlanWheelsRow.unfollowed == Try.prog.unfollowed 5) = true := by kernel_rfl
theorem fact11_FnPlanWheels : (Rows.fnPlanWheelsRow.recurses == Try.prog.recurses 5) = true := by kernel_rfl
theorem fact12_FnPlanWheels : (Rows.fnPlanWheelsRow.named == Try.prog.varsNamed 5) = true := by kernel_rfl
theorem factB_FnPlanWheels : factsB Try.prog 5 Try.f5 Rows.fnPlanWheelsSpec Rows.fnPlanWheelsRow = true := by kernel_rfl
theorem factN_FnPlanWheels : Try.prog.funcNamed Rows.fnPlanWheelsRow.func = some 5 := by kernel_rfl
theorem proved_FnPlanWheels : Rows.FnPlanWheelsSaid :=
  OpenClaim.holds_of_wide 5 Try.f5 rfl rfl rfl rfl rfl rfl rfl ⟨rfl, rfl, rfl, rfl, rfl⟩ rfl rfl rfl rfl rfl factN_FnPlanWheels Try.func5 (closed_of factA_FnPlanWheels fact9_FnPlanWheels fact10_FnPlanWheels fact11_FnPlanWheels fact12_FnPlanWheels factB_FnPlanWheels rfl rfl rfl)
    (of_decide_eq_true (by kernel_rfl)) (by unfold Func.isWrapper; first | (rw [if_pos (by decide +kernel)]; kernel_rfl) | (rw [if_neg (by decide +kernel)]; exact ⟨rfl, rfl⟩))
    (fun os started H enc _ => lifted_FnPlanWheels os started H enc)
end Go.Proofs.Ythjehjdcpfefcaa
