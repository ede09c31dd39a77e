/- FnPlanValues: the values of a plan are those of its segments, one after the other, and make a table. No condition. -/
import Derived.Test.YtkfejnifbkgihaaDrB
import Derived.Test.YtkfejnifbkgihaaPvP
import Derived.Test.YtkfejnifbkgihaaDeI
namespace Go.Proofs.Ytkfejnifbkgihaa
set_option linter.unusedVariables false
open Go.ChangeShapes Go.WideShapes Go.ChangeAt Go.RowKit

theorem keepV {w wa wb : World} {b1 o1 b2 o2 : Nat} {v1 v2 : Value} (h1 : b1 < w.heap.size) (h2 : b2 < w.heap.size) (h : Below w.heap.size w wa ∧ wa.cell? ⟨b1, o1, none⟩ = some v1 ∧ wa.cell? ⟨b2, o2, none⟩ = some v2) (k : Below wa.heap.size wa wb) :
    Below w.heap.size w wb ∧ wb.cell? ⟨b1, o1, none⟩ = some v1 ∧ wb.cell? ⟨b2, o2, none⟩ = some v2 := by
  obtain ⟨h0, p1, p2⟩ := h
  have hs := h0.size
  obtain ⟨hc, _⟩ := bcell k
  exact ⟨bthen h0 k, by rw [hc _ _ (by omega)]; exact p1, by rw [hc _ _ (by omega)]; exact p2⟩
set_option maxHeartbeats 4000000 in
set_option maxRecDepth 100000 in
theorem walk_FnPlanValues (v : Value) (cs : List Int) {w : World} (hw : RdL w v (cs.map (Value.int .u8)) ∧ cs.length ≤ 9223372036854775807 ∧ (∀ n ∈ cs, (Lit.int .u8 n).wf = true) ∧ CapOk v) :
    Calls Try.prog 3 #[v] w fun e w' => e = .returned (.bool true) ∧ Below w.heap.size w w' := by
  obtain ⟨hR, hlen, hwf, hcap⟩ := hw
  have hR0 := hR
  obtain ⟨a, cap, rfl, hR1⟩ := hR0
  clear hR1
  simp only [List.length_map] at hR hcap ⊢
  by_cases hbig : 1048576 < cs.length
  · clear hR hcap hwf
    go_enter Try.func3, Try.ntmps3
    go_wp2
    go_ret
    exact ⟨rfl, Below.refl _ _⟩
  · go_enter Try.func3, Try.ntmps3
    go_wp2_with fail
    refine (c_DrawPlanValues _ cs w hR (by omega) hwf hcap).mono ?_
    rintro e w1 ⟨vp, pl, rfl, o_p, hd, hA⟩
    have hpl62 := hd.1
    have HM : Hid (∀ s ∈ pl, s.2.length ≤ 7) := hd.2
    have hrp := o_p.rd
    clear hR hwf hcap o_p hd
    have HPX : Hid (∀ s ∈ pl, s.2.length ≤ 1099511627776) := fun s hs => by have := HM.out s hs; omega
    obtain ⟨pa, pc, rfl, _⟩ := hrp.form
    go_wp2_with fail
    refine (c_impl_PlanValues _ pl w1 hrp (by omega) HPX.out).mono ?_
    rintro e w2 ⟨vv, rfl, o_v, hB2⟩
    have hA2 := bthen hA hB2
    have hrp2 := hrp.kept hB2
    clear hB2 hA hrp
    go_wp2_with fail
    refine (c_spec_PlanValues _ pl w2 hrp2 (by omega) HPX.out).mono ?_
    rintro e w3 ⟨vs, rfl, o_s, hB3⟩
    have hA3 := bthen hA2 hB3
    have hrp3 := hrp2.kept hB3
    have o_v3 := ownsRow_kept_below o_v hB3
    obtain ⟨va, vc, rfl⟩ := RdI_form (owns_RdI o_v3)
    clear hB3 hA2 hrp2 o_v
    have hll : (pvL pl).length ≤ 60 := by
      unfold pvL
      split
      · rename_i h; exact (tabB_iff (plV_tab h)).2.1
      · simp
    have HPV : Hid (∀ W, RdP W (.slice pa pl.length pc) pl → Calls Try.prog 13 #[.slice pa pl.length pc] W fun e w' => e = .returned (.bool (planB pl)) ∧ Below W.heap.size W w') := fun W h => c_impl_PlanValid _ pl W h (by omega) HPX.out
    cases hv : planB pl
    · rw [hv] at HPV
      have HL : Hid ((pvL pl).length = 0) := by show _ = _; unfold pvL; rw [if_neg (by rw [hv]; decide)]; rfl
      clear hv
      go_wp2_with fail
      refine (k_de_ints _ _ _ _ (pvL pl) _ o_v3 o_s (by omega)).mono ?_
      rintro e w4 ⟨rfl, hB⟩
      replace o_v3 := ownsRow_kept_below o_v3 hB
      replace o_s := ownsRow_kept_below o_s hB
      replace hrp3 := hrp3.kept hB
      replace hA3 := bthen hA3 hB
      clear hB
      go_wp2_with fail
      refine (HPV.out _ hrp3).mono ?_
      rintro e w5 ⟨rfl, hB⟩
      replace o_v3 := ownsRow_kept_below o_v3 hB
      replace o_s := ownsRow_kept_below o_s hB
      replace hrp3 := hrp3.kept hB
      replace hA3 := bthen hA3 hB
      clear hB
      go_wp2_with fail
      refine (k_de_ints _ _ _ _ (pvL pl) _ o_v3 o_s (by omega)).mono ?_
      rintro e w6 ⟨rfl, hB⟩
      replace o_v3 := ownsRow_kept_below o_v3 hB
      replace o_s := ownsRow_kept_below o_s hB
      replace hrp3 := hrp3.kept hB
      replace hA3 := bthen hA3 hB
      clear hB
      go_wp2_with fail
      refine (HPV.out _ hrp3).mono ?_
      rintro e w7 ⟨rfl, hB⟩
      replace o_v3 := ownsRow_kept_below o_v3 hB
      replace o_s := ownsRow_kept_below o_s hB
      replace hrp3 := hrp3.kept hB
      replace hA3 := bthen hA3 hB
      clear hB
      go_wp2
      go_ret
      exact ⟨rfl, hA3⟩
    · rw [hv] at HPV
      have E : Hid (pvL pl = plV pl) := if_pos hv
      have HV := hidd hv
      have HSG := hidd (planB_iff.1 hv).2.1
      clear hv
      go_wp2_with fail
      refine (k_de_ints _ _ _ _ (pvL pl) _ o_v3 o_s (by omega)).mono ?_
      rintro e w4 ⟨rfl, hB⟩
      replace o_v3 := ownsRow_kept_below o_v3 hB
      replace hrp3 := hrp3.kept hB
      replace hA3 := bthen hA3 hB
      clear hB o_s
      go_wp2_with fail
      refine (HPV.out _ hrp3).mono ?_
      rintro e w5 ⟨rfl, hB⟩
      replace o_v3 := ownsRow_kept_below o_v3 hB
      replace hrp3 := hrp3.kept hB
      replace hA3 := bthen hA3 hB
      have hrv := owns_RdI o_v3
      clear hB o_v3 HPV
      rw [E.out] at hrv hll ⊢
      go_wp2
      go_loopw [8, 9, 10, 11] (fun at' dg i _ wr => ∃ (k m : Nat), k ≤ pl.length ∧ i = .int .i64 k ∧ at' = .int .i64 m ∧ Hid (m = (plV (pl.take k)).length) ∧ m ≤ 60 ∧ dg = .int .i64 (degM (pl.take k)) ∧ Below w5.heap.size w5 wr) (fun _ _ i _ _ => pl.length - (intOf i).toNat)
      case atStart => exact ⟨0, 0, by omega, rfl, rfl, rfl, by omega, rfl, Below.refl _ _⟩
      case round =>
        obtain ⟨k, m, hk, rfl, rfl, Hm, hm60, rfl, hB⟩ := hrel
        by_cases hlt : k < pl.length
        · obtain ⟨b, o, qa, qn, qc, rfl, hb, e1, e2, hp, hpc, hpn⟩ := hrp3.cell (Below.refl _ _) hlt
          have hseg := segB_iff (all_getG HSG.out hlt)
          have hdeg := hidd (degM_take_succ pl k hlt)
          have HAT : Hid (∀ n, n < (pl.getD k noG).1.toNat → m + n < (plV pl).length ∧ (plV pl).getD (m + n) 0 = evalP (pl.getD k noG).2 n) := by
            show ∀ n, _ → _
            intro n hn
            rw [Hm.out]
            exact ⟨plV_at_lt hlt hn, plV_at hlt hn⟩
          have HTL := hidd (plV_take_len pl k hlt)
          obtain ⟨s, hs⟩ : ∃ s, pl.getD k noG = s := ⟨_, rfl⟩
          rw [hs] at e1 hp hseg hdeg HAT HTL
          obtain ⟨c, p⟩ := s
          obtain ⟨c1, c2, hpv, _⟩ := hseg
          have c1 : 1 ≤ c := c1
          have c2 : c ≤ 60 := c2
          have hpv : polyB p = true := hpv
          obtain ⟨C, rfl⟩ : ∃ C : Nat, c = C := ⟨c.toNat, by omega⟩
          have hC : C ≤ 60 := by omega
          have i1 : (0 : Int) ≤ (k : Int) := by omega
          have i2 : (k : Int) < (pl.length : Int) := by omega
          have HPP := hidd hp
          have HPV := hidd hpv
          obtain ⟨t, ht⟩ : ∃ t, degM (pl.take k) = t := ⟨_, rfl⟩
          rw [ht] at hdeg ⊢
          clear hs hpn hp ht hpv
          go_wp2
          obtain ⟨wo, hwo⟩ : ∃ wo : World, wo = wr := ⟨_, rfl⟩
          clear hwo
          go_loopw [8, 11] (fun at' i wr => ∃ (n : Nat), n ≤ C ∧ i = .int .i64 n ∧ at' = .int .i64 ((m + n : Nat) : Int) ∧ Below w5.heap.size w5 wr) (fun _ i _ => C - (intOf i).toNat)
          case atStart => exact ⟨0, by omega, rfl, rfl, hB⟩
          case round =>
            obtain ⟨n, hn, rfl, rfl, hB⟩ := hrel
            have k1 : wr.cell? ⟨b, o + k * 2, none⟩ = some (.int .i64 (C : Int)) := by rw [(bcell hB).1 _ _ hb]; exact e1
            have k2 : wr.cell? ⟨b, o + k * 2 + 1, none⟩ = some (.slice qa qn qc) := by rw [(bcell hB).1 _ _ hb]; exact e2
            by_cases hln : n < C
            · obtain ⟨a1, a2⟩ := HAT.out n hln
              obtain ⟨bv, ov, rfl, hbv, f1⟩ := RdI_cell hrv hB a1
              rw [a2] at f1
              have hmn : m + n ≤ 120 := by omega
              obtain ⟨M, hM⟩ : ∃ M, m + n = M := ⟨_, rfl⟩
              rw [hM] at a1 f1 hmn ⊢
              have HMM := hidd hM
              have i3 : (0 : Int) ≤ (M : Int) := by omega
              have i4 : (M : Int) < ((plV pl).length : Int) := by omega
              have HDA : Hid (∀ W, (Below w5.heap.size w5 W ∧ W.cell? ⟨bv, ov + M, none⟩ = some (.int .i64 (evalP p n)) ∧ W.cell? ⟨b, o + k * 2 + 1, none⟩ = some (.slice qa qn qc)) → Calls Try.prog 14 #[.slice qa qn qc, (.int .i64 ((n : Int)))] W fun e w' => e = .returned (.int .i64 (evalP p n)) ∧ Below W.heap.size W w') :=
                fun W h => c_deAt _ p n W (HPP.out.kept h.1) HPV.out (by omega)
              obtain ⟨y, hy⟩ : ∃ y, evalP p n = y := ⟨_, rfl⟩
              rw [hy] at f1 HDA
              have hk0 : Below w5.heap.size w5 wr.drew ∧ wr.drew.cell? ⟨bv, ov + M, none⟩ = some (.int .i64 y) ∧ wr.drew.cell? ⟨b, o + k * 2 + 1, none⟩ = some (.slice qa qn qc) := ⟨hB.drew, f1, k2⟩
              clear a2 hM hy hrv
              go_wp2
              go_region_held3 (fun wx => Below w5.heap.size w5 wx ∧ wx.cell? ⟨bv, ov + M, none⟩ = some (.int .i64 y) ∧ wx.cell? ⟨b, o + k * 2 + 1, none⟩ = some (.slice qa qn qc)) (first | assumption | exact hk0 | exact keepV hbv hb (by assumption) (by assumption))
                ((go_at_call 14; refine (HDA.out _ (by assumption)).mono ?_; rintro e wy ⟨rfl, hby⟩))
              rename_i hS
              have HB := hidd hS.1
              clear hS hk0 f1 k1 k2 hB
              go_wp2
              go_roundw
              case rel => exact ⟨n + 1, by omega, by go_num, by rw [← HMM.out]; go_num, HB.out⟩
              case measure => simp [intOf]; omega
            · obtain rfl : n = C := by omega
              have HD := hidd (c_DegreeOf (.slice qa qn qc) p wr (HPP.out.kept hB) (CapOk_of hpc) (by have := (polyB_iff HPV.out).2.1; omega))
              have hHT : m + n = (plV (pl.take (k + 1))).length := by rw [HTL.out, ← Hm.out]; rfl
              have HT := hidd hHT
              have hm2 : m + n ≤ 60 := by
                have e : (plV pl).length = (plV (pl.take (k + 1))).length + (plV (pl.drop (k + 1))).length := by rw [← List.length_append, ← plV_append, List.take_append_drop]
                omega
              obtain ⟨d, hd⟩ : ∃ d, degP p = d := ⟨_, rfl⟩
              have HDG : Hid (degM (pl.take (k + 1)) = max t d) := by show _ = _; rw [hdeg.out, ← hd]
              rw [hd] at HD
              clear hHT hd hrv
              go_wp2_with fail
              refine HD.out.mono ?_
              rintro e w7 ⟨rfl, hB7⟩
              have HB := hidd (bthen hB hB7)
              clear hB7 hB k1 k2
              go_wp2
              all_goals
                go_roundw
                case rel => exact ⟨k + 1, m + n, by omega, by go_num, rfl, HT.out, hm2, by rw [HDG.out]; first | rfl | (congr 1; omega), HB.out⟩
                case measure => simp [intOf]; omega
        · have hke : k = pl.length := by omega
          have hm2 : Hid (m = (plV pl).length ∧ degM (pl.take k) = degM pl ∧ (m : Int) = tot pl) := by
            subst hke
            have h := Hm.out
            rw [List.take_length] at h ⊢
            exact ⟨h, rfl, by rw [h]; exact plV_len pl (segB_cnt pl HSG.out)⟩
          have ht := hm2.out.2.2
          have hD := hm2.out.2.1
          have hml := hm2.out.1
          have HPL := hidd (c_PlanLength _ pl wr (hrp3.kept hB) (by omega) HPX.out HV.out)
          have HPD : Hid (∀ W, RdP W (.slice pa pl.length pc) pl → Calls Try.prog 17 #[.slice pa pl.length pc] W fun e w' => e = .returned (.int .i64 (degM pl)) ∧ Below W.heap.size W w') := fun W h => c_PlanDegree _ pl W h (by omega) HPX.out HV.out
          have HTV : Hid (∀ W, RdI W (.slice va (plV pl).length vc) (plV pl) → Calls Try.prog 18 #[.slice va (plV pl).length vc] W fun e w' => e = .returned (.bool true) ∧ Below W.heap.size W w') := fun W h => by
            have := c_impl_TableValid _ (plV pl) W h (by omega)
            rwa [plV_tab HV.out] at this
          rw [← ht] at HPL
          rw [hD]
          rw [← hml] at HTV hrv ⊢
          obtain ⟨dg, hdg⟩ : ∃ dg, degM pl = dg := ⟨_, rfl⟩
          rw [hdg] at HPD ⊢
          have b1 : ((m : Int) == (m : Int)) = true := beq_iff_eq.2 rfl
          have b2 : (dg == dg) = true := beq_iff_eq.2 rfl
          have HR := hidd hrp3
          have HI := hidd hrv
          clear ht hD hml hdg hrp3 hrv hke
          go_wp2_with fail
          refine HPL.out.mono ?_
          rintro e w7 ⟨rfl, hB7⟩
          have HB7 := hidd (bthen hB hB7)
          clear hB7 hB
          go_wp2_with fail
          refine (HPD.out _ (HR.out.kept HB7.out)).mono ?_
          rintro e w8 ⟨rfl, hB8⟩
          have HB8 := hidd (bthen HB7.out hB8)
          clear hB8
          go_wp2_with fail
          refine (HTV.out _ (HI.out.kept HB8.out)).mono ?_
          rintro e w9 ⟨rfl, hB9⟩
          have HB9 := hidd (bthen hA3 (bthen HB8.out hB9))
          clear hB9
          go_wp2
          go_ret
          exact ⟨rfl, HB9.out⟩

set_option maxRecDepth 100000 in
theorem lifted_FnPlanValues (os : Os) (started : os.Started) (H : Type) (enc : TypeId × Value → H) :
    ReturnsInHanded {} Try.checked os 3 .any (Rows.fnPlanValuesSpec.pre6 enc Try.prog Try.f3 Rows.fnPlanValuesRow.domain false) (Rows.fnPlanValuesSpec.post enc Try.prog Try.f3 false true false false) := by
  refine returnsInHanded_of_change (C := Try.checked) own started (by kernel_rfl) Try.func3
    (ChangeSpec.witness6 (enc := enc) (C := Try.checked) false ⟨#[], #[.slice none 0 0], []⟩ 8 (by kernel_rfl) (by kernel_rfl) (by kernel_rfl) (by kernel_rfl)) ?_
  intro W base args ds gs before hval0 hW hcnd _
  have hval : ∀ (j : Nat) t v, Try.f3.params[j]? = some t → args[j]? = some v → Value.okWide Try.prog W .any base t v := hval0
  have hW' := hW
  obtain ⟨p, q, hA0, hV, rfl, hfz, hnd⟩ := hW
  have hA : DataW.TrodAll enc Try.prog W 0 (fun _ => true) true Try.f3.params.toList args.toList ds p := hA0
  rw [Try.params3] at hA hval
  obtain ⟨v0, vs0, d0, ds0, p0, q0, hargs, rfl, rfl, h0, r0⟩ := trodAll_cons hA
  obtain ⟨rfl, rfl, rfl⟩ := trodAll_nil r0
  obtain rfl : args = #[v0] := by cases args; simp_all
  obtain ⟨rfl, rfl⟩ := trodVars_none hV
  obtain ⟨l0, w0⟩ := open_bytes (hval 0 22 v0 rfl rfl) h0
  refine (walk_FnPlanValues v0 l0 w0).mono fun e W' ⟨he, hg⟩ => ?_
  subst he
  exact ⟨_, rfl, law_post laidOut hW' rfl (by kernel_rfl) rfl Try.underlying4 rfl rfl rfl rfl hg⟩
theorem factA_FnPlanValues : factsA Try.prog 3 Try.f3 Rows.fnPlanValuesSpec Rows.fnPlanValuesRow = true := by kernel_rfl
theorem fact9_FnPlanValues : (Rows.fnPlanValuesRow.inPlace == Try.prog.inPlace 3) = true := by kernel_rfl
theorem fact10_FnPlanValues : (Rows.fnPlanValuesRow.unfollowed == Try.prog.unfollowed 3) = true := by kernel_rfl
theorem fact11_FnPlanValues : (Rows.fnPlanValuesRow.recurses == Try.prog.recurses 3) = true := by kernel_rfl
theorem fact12_FnPlanValues : (Rows.fnPlanValuesRow.named == Try.prog.varsNamed 3) = true := by kernel_rfl
theorem factB_FnPlanValues : factsB Try.prog 3 Try.f3 Rows.fnPlanValuesSpec Rows.fnPlanValuesRow = true := by kernel_rfl
theorem factN_FnPlanValues : Try.prog.funcNamed Rows.fnPlanValuesRow.func = some 3 := by kernel_rfl
theorem proved_FnPlanValues : Rows.FnPlanValuesSaid :=
  OpenClaim.holds_of_wide 3 Try.f3 rfl rfl rfl rfl rfl rfl rfl ⟨rfl, rfl, rfl, rfl, rfl⟩ rfl rfl rfl rfl rfl factN_FnPlanValues Try.func3 (closed_of factA_FnPlanValues fact9_FnPlanValues fact10_FnPlanValues fact11_FnPlanValues fact12_FnPlanValues factB_FnPlanValues rfl rfl rfl)
    (of_decide_eq_true (by kernel_rfl)) (by unfold Func.isWrapper; first | (rw [if_pos (by decide +kernel)]; kernel_rfl) | (rw [if_neg (by decide +kernel)]; exact ⟨rfl, rfl⟩))
    (fun os started H enc _ => lifted_FnPlanValues os started H enc)
end Go.Proofs.Ytkfejnifbkgihaa
