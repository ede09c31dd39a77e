/- FnGreedyValues: the plan by longest runs has the table as values, and each of its segments is the longest run. No condition. -/
import Derived.Test.YtkfejnifbkgihaaPlan8
import Derived.Test.YtkfejnifbkgihaaDe5
import Derived.Test.YtkfejnifbkgihaaDrS5
import Derived.Test.YtkfejnifbkgihaaGrP2
import Derived.Test.YtkfejnifbkgihaaPvP
namespace Go.Proofs.Ytkfejnifbkgihaa
set_option linter.unusedVariables false
open Go.ChangeShapes Go.WideShapes Go.ChangeAt Go.RowKit

theorem keep3d {w wa wb : World} {b o p f q : Nat} {v0 v1 v2 : Value} (hb : b < w.heap.size) (hf : f < w.heap.size) (h : Below w.heap.size w wa ∧ wa.cell? ⟨b, o, none⟩ = some v0 ∧ wa.cell? ⟨b, p, none⟩ = some v1 ∧ wa.cell? ⟨f, q, none⟩ = some v2) (k : Below wa.heap.size wa wb) :
    Below w.heap.size w wb ∧ wb.cell? ⟨b, o, none⟩ = some v0 ∧ wb.cell? ⟨b, p, none⟩ = some v1 ∧ wb.cell? ⟨f, q, none⟩ = some v2 := by
  obtain ⟨h0, h1, h2, h3⟩ := h
  have hs := h0.size
  obtain ⟨hc, _⟩ := bcell k
  exact ⟨bthen h0 k, by rw [hc _ _ (by omega)]; exact h1, by rw [hc _ _ (by omega)]; exact h2, by rw [hc _ _ (by omega)]; exact h3⟩
set_option maxHeartbeats 4000000 in
set_option maxRecDepth 100000 in
theorem walk_FnGreedyValues (v : Value) (cs : List Int) {w : World} (hw : RdL w v (cs.map (Value.int .u8)) ∧ cs.length ≤ 9223372036854775807 ∧ (∀ n ∈ cs, (Lit.int .u8 n).wf = true) ∧ CapOk v) :
    Calls Try.prog 5 #[v] w fun e w' => e = .returned (.bool true) ∧ Below w.heap.size w w' := by
  obtain ⟨hR, hlen, hwf, hcap⟩ := hw
  have hR0 := hR
  obtain ⟨a, cap, rfl, hR1⟩ := hR0
  clear hR1
  simp only [List.length_map] at hR hcap ⊢
  by_cases hbig : 1048576 < cs.length
  · clear hR hcap hwf
    go_enter Try.func5, Try.ntmps5
    go_wp2
    go_ret
    exact ⟨rfl, Below.refl _ _⟩
  · go_enter Try.func5, Try.ntmps5
    go_wp2_with fail
    refine (c_DrawGreedyPlan _ cs w hR (by omega) hwf hcap).mono ?_
    rintro e w1 ⟨vx, xs, d, rfl, o_x, hx61, ⟨hd1, hd2⟩, hA⟩
    have hcx := owns_CapOk o_x
    have hrx := owns_RdI o_x
    clear hR hwf hcap o_x
    obtain ⟨xa, xc, rfl⟩ := RdI_form hrx
    have hxc : xs.length ≤ xc := hcx _ _ _ rfl
    clear hcx
    go_wp2_with fail
    refine (c_impl_GreedyPlan _ xs d w1 hrx (CapOk_of hxc) (by omega)).mono ?_
    rintro e w2 ⟨vp, rfl, o_p, hB2⟩
    have hA2 := bthen hA hB2
    have hrx2 := hrx.kept hB2
    have hrp2 := o_p.rd
    clear hB2 hA hrx o_p
    go_wp2_with fail
    refine (c_spec_GreedyPlan _ xs d w2 hrx2 (CapOk_of hxc) (by omega)).mono ?_
    rintro e w3 ⟨vs, rfl, o_s, hB3⟩
    have hA3 := bthen hA2 hB3
    have hrx3 := hrx2.kept hB3
    have hrp3 := hrp2.kept hB3
    have hrs3 := o_s.rd
    clear hB3 hA2 hrx2 hrp2 o_s
    have hgl := grL_len xs d
    have HGM := hidd (grL_mem xs d)
    have HDP : Hid (∀ u1 u2 W, RdP W u1 (grL xs d) → RdP W u2 (grL xs d) → Calls Try.prog 29 #[u1, u2] W fun e w' => e = .returned (.bool true) ∧ Below W.heap.size W w') :=
      fun u1 u2 W h1 h2 => k_de_plans u1 u2 _ W h1 h2 (by omega) (fun s hs => by have := HGM.out s hs; omega)
    obtain ⟨pl, hpl⟩ : ∃ pl, grL xs d = pl := ⟨_, rfl⟩
    rw [hpl] at hgl HGM HDP hrp3 hrs3
    have HPL := hidd hpl
    obtain ⟨pa, pc, rfl, _⟩ := hrp3.form
    obtain ⟨sa, sc, rfl, _⟩ := hrs3.form
    clear hpl
    cases hv : grB xs d
    · clear hv
      go_wp2_with fail
      refine (HDP.out _ _ _ hrp3 hrs3).mono ?_
      rintro e w4 ⟨rfl, hB⟩
      replace hrp3 := hrp3.kept hB
      replace hrs3 := hrs3.kept hB
      replace hA3 := bthen hA3 hB
      clear hB
      go_wp2_with fail
      refine (HDP.out _ _ _ hrp3 hrs3).mono ?_
      rintro e w5 ⟨rfl, hB⟩
      replace hrp3 := hrp3.kept hB
      replace hrs3 := hrs3.kept hB
      replace hA3 := bthen hA3 hB
      clear hB
      go_wp2
      go_ret
      exact ⟨rfl, hA3⟩
    · have hgr : gr xs d = pl := by rw [← HPL.out]; exact (if_pos hv).symm
      unfold grB at hv
      rw [Bool.and_eq_true] at hv
      obtain ⟨hsm, hd6⟩ := hv
      obtain ⟨hsp, hx1⟩ := smallB_iff.1 hsm
      obtain ⟨hd0, hd6'⟩ := inB_iff.1 hd6
      obtain ⟨hpb, hpv⟩ := gr_plan hd0 hd6' hsp hx1
      have hdeg := degM_le (d := d) (by omega) _ (gr_deg d hd0 hd6' xs.length xs (Nat.le_refl _) hsp)
      rw [hgr] at hpb hpv hdeg
      have hpvl : pvL pl = xs := by unfold pvL; rw [if_pos hpb]; exact hpv
      have HPB := hidd hpb
      have HSM := hidd hsm
      have HSP := hidd hsp
      have HD6 := hidd hd6
      have HG0 : Hid (pl.drop 0 = gr (xs.drop 0) d) := hgr.symm
      have HPX : Hid (∀ s ∈ pl, s.2.length ≤ 1099511627776) := fun s hs => by have := HGM.out s hs; omega
      have HPV : Hid (∀ W, RdP W (.slice pa pl.length pc) pl → Calls Try.prog 10 #[.slice pa pl.length pc] W (FreshIB W xs true)) := by
        show ∀ W, _
        intro W h
        have := c_impl_PlanValues _ pl W h (by omega) HPX.out
        rwa [hpvl, hpb] at this
      clear hgr hsm hsp hpb hpv hpvl hd6
      go_wp2_with fail
      refine (HDP.out _ _ _ hrp3 hrs3).mono ?_
      rintro e w4 ⟨rfl, hB⟩
      replace hrp3 := hrp3.kept hB
      replace hrx3 := hrx3.kept hB
      replace hA3 := bthen hA3 hB
      clear hB hrs3
      go_wp2_with fail
      refine (HPV.out _ hrp3).mono ?_
      rintro e w5 ⟨vb, rfl, o_b, hB⟩
      replace hrp3 := hrp3.kept hB
      replace hrx3 := hrx3.kept hB
      replace hA3 := bthen hA3 hB
      have hrb := owns_RdI o_b
      obtain ⟨ba, bc, rfl⟩ := RdI_form hrb
      clear hB o_b HPV HDP
      go_wp2
      go_loopw [11, 12, 13, 14] (fun at' i _ _ wr => ∃ (k F : Nat), k ≤ pl.length ∧ i = .int .i64 k ∧ at' = .int .i64 F ∧ F ≤ xs.length ∧ Hid (pl.drop k = gr (xs.drop F) d) ∧ Below w5.heap.size w5 wr) (fun _ i _ _ _ => pl.length - (intOf i).toNat)
      case atStart => exact ⟨0, 0, by omega, rfl, rfl, by omega, HG0.out, Below.refl _ _⟩
      case round =>
        obtain ⟨k, F, hk, rfl, rfl, hF, HG, hB⟩ := hrel
        by_cases hlt : k < pl.length
        · obtain ⟨g1, g2, g3, g4, g5, g6⟩ := gr_step HSP.out hd0 hd6' HG.out hlt
          obtain ⟨b, o, qa, qn, qc, rfl, hb, e1, e2, hp, hpc, hpn⟩ := hrp3.cell hB hlt
          obtain ⟨m, hm⟩ : ∃ m, lg (xs.drop F) d = m := ⟨_, rfl⟩
          have HLR : Hid (∀ W, Below w5.heap.size w5 W → Calls Try.prog 31 #[.slice xa xs.length xc, (.int .i64 ((F : Int))), (.int .i64 (d))] W fun e w' => e = .returned (.int .i64 ((m : Int))) ∧ Below W.heap.size W w') := by
            show ∀ W, _
            intro W h
            have := c_LongestRun _ xs F d W (hrx3.kept h) (CapOk_of hxc) HSM.out HD6.out hF
            rwa [hm] at this
          rw [hm] at g2 g3 g4 g5 g6
          rw [g5] at e1 hp
          have e1 : wr.cell? ⟨b, o + k * 2, none⟩ = some (.int .i64 (m : Int)) := e1
          have hp : RdI w5 (.slice qa qn qc) (ip ((xs.drop F).take m)) := hp
          have HSO := hidd (c_SegmentOf _ xs F m d wr (hrx3.kept hB) (CapOk_of hxc) HSM.out HD6.out g1 g2 g3 g4)
          have HG6 := hidd g6
          have hpl7 := (polyB_iff (runB_iff g4).2.2.2).2.1
          obtain ⟨p, hpe⟩ : ∃ p, ip ((xs.drop F).take m) = p := ⟨_, rfl⟩
          rw [hpe] at hp HSO hpl7
          have i1 : (0 : Int) ≤ (k : Int) := by omega
          have i2 : (k : Int) < (pl.length : Int) := by omega
          have HPP := hidd hp
          have hbs := hB.size
          clear g4 g5 g6 hm hpe hpn hp
          go_wp2_with fail
          refine HSO.out.mono ?_
          rintro e w6 ⟨ua, un, uc, rfl, hu, hB6⟩
          have hu2 := owns_RdI hu
          have k1 : w6.cell? ⟨b, o + k * 2, none⟩ = some (.int .i64 (m : Int)) := by rw [(bcell hB6).1 _ _ (by omega)]; exact e1
          have k2 : w6.cell? ⟨b, o + k * 2 + 1, none⟩ = some (.slice qa qn qc) := by rw [(bcell hB6).1 _ _ (by omega)]; exact e2
          have hb6 : b < w6.heap.size := by have := hB6.size; omega
          have hB5 := bthen hB hB6
          have hal : Below w6.heap.size w6 (w6.alloc (.cells #[(.int .i64 ((m : Int))), .slice ua un uc] 31)) := (Below.refl _ _).alloc (Nat.le_refl _) _
          have k3 : (w6.alloc (.cells #[(.int .i64 ((m : Int))), .slice ua un uc] 31)).cell? ⟨b, o + k * 2, none⟩ = some (.int .i64 (m : Int)) := by rw [(bcell hal).1 _ _ hb6]; exact k1
          have k4 : (w6.alloc (.cells #[(.int .i64 ((m : Int))), .slice ua un uc] 31)).cell? ⟨b, o + k * 2 + 1, none⟩ = some (.slice qa qn qc) := by rw [(bcell hal).1 _ _ hb6]; exact k2
          have k5 : (w6.alloc (.cells #[(.int .i64 ((m : Int))), .slice ua un uc] 31)).cell? ⟨w6.heap.size, 1, none⟩ = some (.slice ua un uc) := by simp [go_sem]
          have hf : w6.heap.size < (w6.alloc (.cells #[(.int .i64 ((m : Int))), .slice ua un uc] 31)).heap.size := by simp
          have hua := hu2.kept hal
          have hBt := bthen hB5 hal
          clear hu hu2 e1 e2 hB6 k1 k2 hB HSO
          go_wp2
          generalize hW7 : w6.alloc (.cells #[(.int .i64 ((m : Int))), .slice ua un uc] 31) = w7 at *
          generalize hfs : w6.heap.size = f at *
          have hb7 : b < w7.heap.size := by omega
          have HBt := hidd hBt
          have HUA := hidd hua
          have hk0 : Below w7.heap.size w7 w7.drew ∧ w7.drew.cell? ⟨b, o + k * 2, none⟩ = some (.int .i64 (m : Int)) ∧ w7.drew.cell? ⟨b, o + k * 2 + 1, none⟩ = some (.slice qa qn qc) ∧ w7.drew.cell? ⟨f, 1, none⟩ = some (.slice ua un uc) := ⟨(Below.refl _ _).drew, k3, k4, k5⟩
          have HDI : Hid (∀ W, (Below w7.heap.size w7 W ∧ W.cell? ⟨b, o + k * 2, none⟩ = some (.int .i64 (m : Int)) ∧ W.cell? ⟨b, o + k * 2 + 1, none⟩ = some (.slice qa qn qc) ∧ W.cell? ⟨f, 1, none⟩ = some (.slice ua un uc)) → Calls Try.prog 12 #[.slice ua un uc, .slice qa qn qc] W fun e w' => e = .returned (.bool true) ∧ Below W.heap.size W w') :=
            fun W h => (c_deInts _ _ p p W (HUA.out.kept h.1) ((HPP.out.kept HBt.out).kept h.1) (by omega) (by omega)).mono fun _ _ ⟨h1, h2⟩ => ⟨by rw [h1]; simp, h2⟩
          have HLR2 : Hid (∀ W, (Below w7.heap.size w7 W ∧ W.cell? ⟨b, o + k * 2, none⟩ = some (.int .i64 (m : Int)) ∧ W.cell? ⟨b, o + k * 2 + 1, none⟩ = some (.slice qa qn qc) ∧ W.cell? ⟨f, 1, none⟩ = some (.slice ua un uc)) → Calls Try.prog 31 #[.slice xa xs.length xc, (.int .i64 ((F : Int))), (.int .i64 (d))] W fun e w' => e = .returned (.int .i64 ((m : Int))) ∧ Below W.heap.size W w') :=
            fun W h => HLR.out W (bthen HBt.out h.1)
          have hmm : ((m : Int) != (m : Int)) = false := by simp
          clear hBt hua hal k3 k4 k5 hB5 hW7 hfs
          go_wp2
          go_region_held3 (fun wx => Below w7.heap.size w7 wx ∧ wx.cell? ⟨b, o + k * 2, none⟩ = some (.int .i64 (m : Int)) ∧ wx.cell? ⟨b, o + k * 2 + 1, none⟩ = some (.slice qa qn qc) ∧ wx.cell? ⟨f, 1, none⟩ = some (.slice ua un uc)) (first | assumption | exact hk0 | exact keep3d hb7 hf (by assumption) (by assumption))
            (first | (go_at_call 12; refine (HDI.out _ (by assumption)).mono ?_; rintro e w8 ⟨rfl, hb8⟩) | (go_at_call 31; refine (HLR2.out _ (by assumption)).mono ?_; rintro e w9 ⟨rfl, hb9⟩))
          rename_i hS
          have hS1 := hS.2.1
          have HBf := hidd (bthen HBt.out hS.1)
          clear hS hk0 hmm
          go_wp2
          go_roundw
          case rel => exact ⟨k + 1, F + m, by omega, by go_num, by go_num, by omega, HG6.out, HBf.out⟩
          case measure => simp [intOf]; omega
        · have HPD := hidd (c_PlanDegree _ pl wr (hrp3.kept hB) (by omega) HPX.out HPB.out)
          have HDI := hidd ((c_deInts _ _ xs xs wr (hrb.kept hB) (hrx3.kept hB) (by omega) (by omega)).mono fun _ _ ⟨h1, h2⟩ => (⟨h1.trans (by simp), h2⟩ : _ = Ending.returned (.bool true) ∧ _))
          have HRP := hidd (hrp3.kept hB)
          have HPDA : Hid (∀ W, RdP W (.slice pa pl.length pc) pl → Calls Try.prog 17 #[.slice pa pl.length pc] W fun e w' => e = .returned (.int .i64 (degM pl)) ∧ Below W.heap.size W w') := fun W h => c_PlanDegree _ pl W h (by omega) HPX.out HPB.out
          obtain ⟨t, ht⟩ : ∃ t, degM pl = t := ⟨_, rfl⟩
          rw [ht] at HPDA hdeg
          have HB := hidd (bthen hA3 hB)
          clear ht hrp3 hrx3 hrb HPD hB hA3
          go_wp2_with fail
          refine HDI.out.mono ?_
          rintro e w6 ⟨rfl, hB6⟩
          have HP6 := hidd (HRP.out.kept hB6)
          have HB6 := hidd (bthen HB.out hB6)
          clear hB6
          go_wp2_with fail
          refine (HPDA.out _ HP6.out).mono ?_
          rintro e w7 ⟨rfl, hB7⟩
          have HB7 := hidd (bthen HB6.out hB7)
          clear hB7
          go_wp2
          go_ret
          exact ⟨rfl, HB7.out⟩

set_option maxRecDepth 100000 in
theorem lifted_FnGreedyValues (os : Os) (started : os.Started) (H : Type) (enc : TypeId × Value → H) :
    ReturnsInHanded {} Try.checked os 5 .any (Rows.fnGreedyValuesSpec.pre6 enc Try.prog Try.f5 Rows.fnGreedyValuesRow.domain false) (Rows.fnGreedyValuesSpec.post enc Try.prog Try.f5 false true false false) := by
  refine returnsInHanded_of_change (C := Try.checked) own started (by kernel_rfl) Try.func5
    (ChangeSpec.witness6 (enc := enc) (C := Try.checked) false ⟨#[], #[.slice none 0 0], []⟩ 8 (by kernel_rfl) (by kernel_rfl) (by kernel_rfl) (by kernel_rfl)) ?_
  intro W base args ds gs before hval0 hW hcnd _
  have hval : ∀ (j : Nat) t v, Try.f5.params[j]? = some t → args[j]? = some v → Value.okWide Try.prog W .any base t v := hval0
  have hW' := hW
  obtain ⟨p, q, hA0, hV, rfl, hfz, hnd⟩ := hW
  have hA : DataW.TrodAll enc Try.prog W 0 (fun _ => true) true Try.f5.params.toList args.toList ds p := hA0
  rw [Try.params5] at hA hval
  obtain ⟨v0, vs0, d0, ds0, p0, q0, hargs, rfl, rfl, h0, r0⟩ := trodAll_cons hA
  obtain ⟨rfl, rfl, rfl⟩ := trodAll_nil r0
  obtain rfl : args = #[v0] := by cases args; simp_all
  obtain ⟨rfl, rfl⟩ := trodVars_none hV
  obtain ⟨l0, w0⟩ := open_bytes (hval 0 22 v0 rfl rfl) h0
  refine (walk_FnGreedyValues v0 l0 w0).mono fun e W' ⟨he, hg⟩ => ?_
  subst he
  exact ⟨_, rfl, law_post laidOut hW' rfl (by kernel_rfl) rfl Try.underlying4 rfl rfl rfl rfl hg⟩
theorem factA_FnGreedyValues : factsA Try.prog 5 Try.f5 Rows.fnGreedyValuesSpec Rows.fnGreedyValuesRow = true := by kernel_rfl
theorem fact9_FnGreedyValues : (Rows.fnGreedyValuesRow.inPlace == Try.prog.inPlace 5) = true := by kernel_rfl
theorem fact10_FnGreedyValues : (Rows.fnGreedyValuesRow.unfollowed == Try.prog.unfollowed 5) = true := by kernel_rfl
theorem fact11_FnGreedyValues : (Rows.fnGreedyValuesRow.recurses == Try.prog.recurses 5) = true := by kernel_rfl
theorem fact12_FnGreedyValues : (Rows.fnGreedyValuesRow.named == Try.prog.varsNamed 5) = true := by kernel_rfl
theorem factB_FnGreedyValues : factsB Try.prog 5 Try.f5 Rows.fnGreedyValuesSpec Rows.fnGreedyValuesRow = true := by kernel_rfl
theorem factN_FnGreedyValues : Try.prog.funcNamed Rows.fnGreedyValuesRow.func = some 5 := by kernel_rfl
theorem proved_FnGreedyValues : Rows.FnGreedyValuesSaid :=
  OpenClaim.holds_of_wide 5 Try.f5 rfl rfl rfl rfl rfl rfl rfl ⟨rfl, rfl, rfl, rfl, rfl⟩ rfl rfl rfl rfl rfl factN_FnGreedyValues Try.func5 (closed_of factA_FnGreedyValues fact9_FnGreedyValues fact10_FnGreedyValues fact11_FnGreedyValues fact12_FnGreedyValues factB_FnGreedyValues rfl rfl rfl)
    (of_decide_eq_true (by kernel_rfl)) (by unfold Func.isWrapper; first | (rw [if_pos (by decide +kernel)]; kernel_rfl) | (rw [if_neg (by decide +kernel)]; exact ⟨rfl, rfl⟩))
    (fun os started H enc _ => lifted_FnGreedyValues os started H enc)
end Go.Proofs.Ytkfejnifbkgihaa
