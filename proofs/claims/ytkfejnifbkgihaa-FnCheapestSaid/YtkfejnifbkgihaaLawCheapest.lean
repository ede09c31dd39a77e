/- FnCheapest: the cheapest plan has the table as values, and no plan is cheaper. No condition. -/
import Derived.Test.YtkfejnifbkgihaaCp6
import Derived.Test.YtkfejnifbkgihaaDe5
import Derived.Test.YtkfejnifbkgihaaPlan8
import Derived.Test.YtkfejnifbkgihaaPvP
namespace Go.Proofs.Ytkfejnifbkgihaa
set_option linter.unusedVariables false
open Go.ChangeShapes Go.WideShapes Go.ChangeAt Go.RowKit

set_option maxHeartbeats 4000000 in
set_option maxRecDepth 100000 in
theorem walk_FnCheapest (v : Value) (cs : List Int) {w : World} (hw : RdL w v (cs.map (Value.int .u8)) ∧ cs.length ≤ 9223372036854775807 ∧ (∀ n ∈ cs, (Lit.int .u8 n).wf = true) ∧ CapOk v)
    (v' : Value) (cs' : List Int) (hw' : RdL w v' (cs'.map (Value.int .u8)) ∧ cs'.length ≤ 9223372036854775807 ∧ (∀ n ∈ cs', (Lit.int .u8 n).wf = true) ∧ CapOk v') :
    Calls Try.prog 8 #[v, v'] w fun e w' => e = .returned (.bool true) ∧ Below w.heap.size w w' := by
  obtain ⟨hR, hlen, hwf, hcap⟩ := hw
  obtain ⟨hR', hlen', _, _⟩ := hw'
  have hR0 := hR
  obtain ⟨a0, cap, rfl, hR1⟩ := hR0
  obtain ⟨a0', cap', rfl, _⟩ := hR'
  clear hR1
  simp only [List.length_map] at hR hcap ⊢
  by_cases hbig : 1048576 < cs.length
  · clear hR hcap hwf
    go_enter Try.func8, Try.ntmps8
    go_wp2
    go_ret
    exact ⟨rfl, Below.refl _ _⟩
  by_cases hbig' : 1048576 < cs'.length
  · clear hR hcap hwf
    go_enter Try.func8, Try.ntmps8
    go_wp2
    go_ret
    exact ⟨rfl, Below.refl _ _⟩
  · obtain ⟨M, hM⟩ : ∃ M, cs'.length = M := ⟨_, rfl⟩
    rw [hM] at hlen' hbig' ⊢
    clear hM
    go_enter Try.func8, Try.ntmps8
    go_wp2_with fail
    refine (c_DrawCheapestPlan _ cs w hR (by omega) hwf hcap).mono ?_
    rintro e w1 ⟨vx, xs, d, a, b, rfl, o_x, hx61, ⟨hd1, hd2⟩, ⟨ha1, ha2⟩, ⟨hb1, hb2⟩, hA⟩
    have hcx := owns_CapOk o_x
    have hrx := owns_RdI o_x
    clear hR hwf hcap o_x
    obtain ⟨xa, xc, rfl⟩ := RdI_form hrx
    have hxc : xs.length ≤ xc := hcx _ _ _ rfl
    clear hcx
    go_wp2_with fail
    refine (c_impl_CheapestPlan _ xs d a b w1 hrx (CapOk_of hxc) (by omega)).mono ?_
    rintro e w2 ⟨vp, rfl, o_p, hB2⟩
    have hA2 := bthen hA hB2
    have hrx2 := hrx.kept hB2
    have hrp2 := o_p.rd
    clear hB2 hA hrx o_p
    go_wp2_with fail
    refine (c_spec_CheapestPlan _ xs d a b w2 hrx2 (CapOk_of hxc) (by omega)).mono ?_
    rintro e w3 ⟨vs, rfl, o_s, hB3⟩
    have hA3 := bthen hA2 hB3
    have hrx3 := hrx2.kept hB3
    have hrp3 := hrp2.kept hB3
    have hrs3 := o_s.rd
    clear hB3 hA2 hrx2 hrp2 o_s
    have hgl := cpL_len xs d a b
    have HGM := hidd (cpL_mem xs d a b)
    have HDP : Hid (∀ u1 u2 W, RdP W u1 (cpL xs d a b) → RdP W u2 (cpL xs d a b) → Calls Try.prog 29 #[u1, u2] W fun e w' => e = .returned (.bool true) ∧ Below W.heap.size W w') :=
      fun u1 u2 W h1 h2 => k_de_plans u1 u2 _ W h1 h2 (by omega) (fun s hs => by have := HGM.out s hs; omega)
    obtain ⟨pl, hpl⟩ : ∃ pl, cpL xs d a b = pl := ⟨_, rfl⟩
    rw [hpl] at hgl HGM HDP hrp3 hrs3
    have HPL := hidd hpl
    obtain ⟨pa, pc, rfl, _⟩ := hrp3.form
    obtain ⟨sa, sc, rfl, _⟩ := hrs3.form
    clear hpl
    cases hv : cpB xs d a b
    · clear hv
      go_wp2_with fail
      refine (HDP.out _ _ _ hrp3 hrs3).mono ?_
      rintro e w4 ⟨rfl, hB⟩
      replace hrp3 := hrp3.kept hB
      replace hrs3 := hrs3.kept hB
      replace hA3 := bthen hA3 hB
      clear hB
      go_wp2_with fail
      refine (HDP.out _ _ _ hrp3 hrs3).mono ?_
      rintro e w5 ⟨rfl, hB⟩
      replace hA3 := bthen hA3 hB
      clear hB
      go_wp2
      go_ret
      exact ⟨rfl, hA3⟩
    · have hcp : cp d a b xs = pl := by rw [← HPL.out]; exact (if_pos hv).symm
      obtain ⟨hsm, hd6, hia, hib⟩ := cpB_t hv
      obtain ⟨hsp, hx1⟩ := smallB_iff.1 hsm
      obtain ⟨hd0, hd6'⟩ := inB_iff.1 hd6
      have hba := inB_iff.1 hia
      have hbb := inB_iff.1 hib
      obtain ⟨hrun, hcost⟩ := cp_facts hd0 hd6' hba hbb xs.length xs (Nat.le_refl _) hsp
      rw [hcp] at hrun hcost
      obtain ⟨hpb, hpv, hdeg⟩ := RunPl_plan hd0 hd6' hsp hx1 hrun
      have hgrun := gr_RunPl d hd0 hd6' xs.length xs (Nat.le_refl _) hsp
      obtain ⟨hgpb, _, _⟩ := RunPl_plan hd0 hd6' hsp hx1 hgrun
      have hgb : grB xs d = true := by unfold grB; rw [hsm, hd6]; rfl
      have hgL : grL xs d = gr xs d := if_pos hgb
      have hgcost := cost_least (a := a) (b := b) (gr xs d) xs hgrun
      have hpvl : pvL pl = xs := by unfold pvL; rw [if_pos hpb]; exact hpv
      have HPB := hidd hpb
      have HSM := hidd hsm
      have HSP := hidd hsp
      have HD6 := hidd hd6
      have HPX : Hid (∀ s ∈ pl, s.2.length ≤ 1099511627776) := fun s hs => by have := HGM.out s hs; omega
      have HPV : Hid (∀ W, RdP W (.slice pa pl.length pc) pl → Calls Try.prog 10 #[.slice pa pl.length pc] W (FreshIB W xs true)) := by
        show ∀ W, _
        intro W h
        have := c_impl_PlanValues _ pl W h (by omega) HPX.out
        rwa [hpvl, hpb] at this
      obtain ⟨K, hK⟩ : ∃ K, bs d a b xs = K := ⟨_, rfl⟩
      rw [hK] at hcost hgcost
      have HPC : Hid (∀ W, RdP W (.slice pa pl.length pc) pl → Calls Try.prog 39 #[.slice pa pl.length pc, (.int .i64 (a)), (.int .i64 (b))] W fun e w' => e = .returned (.int .i64 (K)) ∧ Below W.heap.size W w') := by
        show ∀ W, _
        intro W h
        have := c_PlanCost _ pl a b W h HPB.out hba hbb
        rwa [hcost] at this
      have HGP : Hid (∀ W, RdI W (.slice xa xs.length xc) xs → Calls Try.prog 27 #[.slice xa xs.length xc, (.int .i64 (d))] W (FreshPB W (gr xs d) true)) := by
        show ∀ W, _
        intro W h
        have := c_impl_GreedyPlan _ xs d W h (CapOk_of hxc) (by omega)
        rwa [hgL, hgb] at this
      have HLEAST : Hid (∀ t, RunPl d xs t → planB t = true ∧ K ≤ cost a b t) := fun t h => ⟨(RunPl_plan hd0 hd6' hsp hx1 h).1, by rw [← hK]; exact cost_least t xs h⟩
      have HGB : Hid (∀ vg W, RdP W vg (gr xs d) → Calls Try.prog 39 #[vg, (.int .i64 (a)), (.int .i64 (b))] W fun e w' => e = .returned (.int .i64 (cost a b (gr xs d))) ∧ Below W.heap.size W w') := fun vg W h => c_PlanCost _ _ a b W h hgpb hba hbb
      obtain ⟨G, hG⟩ : ∃ G, cost a b (gr xs d) = G := ⟨_, rfl⟩
      rw [hG] at hgcost HGB
      have HOC : Hid (∀ vo t W, planB t = true → RdP W vo t → Calls Try.prog 39 #[vo, (.int .i64 (a)), (.int .i64 (b))] W fun e w' => e = .returned (.int .i64 (cost a b t)) ∧ Below W.heap.size W w') := fun vo t W hp h => c_PlanCost _ _ a b W h hp hba hbb
      have HPD : Hid (∀ W, RdP W (.slice pa pl.length pc) pl → Calls Try.prog 17 #[.slice pa pl.length pc] W fun e w' => e = .returned (.int .i64 (degM pl)) ∧ Below W.heap.size W w') := fun W h => c_PlanDegree _ pl W h (by omega) HPX.out HPB.out
      obtain ⟨t, ht⟩ : ∃ t, degM pl = t := ⟨_, rfl⟩
      rw [ht] at HPD hdeg
      clear hv hcp hsm hsp hd6 hia hib hba hbb hrun hcost hpb hpv hgrun hgpb hgb hgL hpvl hK hG ht
      go_wp2_with fail
      refine (HDP.out _ _ _ hrp3 hrs3).mono ?_
      rintro e w4 ⟨rfl, hB⟩
      replace hrp3 := hrp3.kept hB
      replace hrx3 := hrx3.kept hB
      replace hA3 := bthen hA3 hB
      clear hB hrs3
      go_wp2_with fail
      refine (HPV.out _ hrp3).mono ?_
      rintro e w5 ⟨vb, rfl, o_b, hB⟩
      replace hrp3 := hrp3.kept hB
      replace hrx3 := hrx3.kept hB
      replace hA3 := bthen hA3 hB
      have hrb := owns_RdI o_b
      obtain ⟨ba, bc, rfl⟩ := RdI_form hrb
      clear hB o_b HPV HDP
      go_wp2_with fail
      refine (HPC.out _ hrp3).mono ?_
      rintro e w6 ⟨rfl, hB⟩
      replace hrp3 := hrp3.kept hB
      replace hrx3 := hrx3.kept hB
      replace hrb := hrb.kept hB
      replace hA3 := bthen hA3 hB
      clear hB HPC
      go_wp2_with fail
      refine (HGP.out _ hrx3).mono ?_
      rintro e w7 ⟨vg, rfl, o_g, hB⟩
      replace hrp3 := hrp3.kept hB
      replace hrx3 := hrx3.kept hB
      replace hrb := hrb.kept hB
      replace hA3 := bthen hA3 hB
      have hrg := o_g.rd
      obtain ⟨ga, gc, rfl, _⟩ := hrg.form
      clear hB HGP o_g
      have ho0 := OwP.made w7 w7.heap.size (Nat.le_refl _)
      have hB0 : Below w7.heap.size w7 (w7.alloc (.cells #[] 31)) := (Below.refl _ _).alloc (Nat.le_refl _) _
      have H0 : Hid (OwP (w7.alloc (.cells #[] 31)) w7.heap.size (.slice (some ⟨w7.heap.size, 0, none⟩) 0 0) [] ∧ Below w7.heap.size w7 (w7.alloc (.cells #[] 31))) := ⟨ho0, hB0⟩
      have HRX := hidd hrx3
      have HRP := hidd hrp3
      have HRB := hidd hrb
      have HRG := hidd hrg
      have HA := hidd hA3
      clear ho0 hB0 hrx3 hrp3 hrb hrg hA3
      go_wp2
      go_loopw [18, 19, 20, 21, 22] (fun r i _ _ _ wr => ∃ (F : Nat) (po : List Seg), i = .int .i64 F ∧ F ≤ xs.length ∧ po.length ≤ F ∧ Hid (∀ t, RunPl d (xs.drop F) t → RunPl d xs (po ++ t)) ∧ Hid (OwP wr w7.heap.size r po ∧ Below w7.heap.size w7 wr)) (fun _ i _ _ _ _ => xs.length - (intOf i).toNat)
      case atStart => exact ⟨0, [], rfl, by omega, by simp, fun t h => h, H0⟩
      case round =>
        obtain ⟨F, po, rfl, hF, hpo, HG, HH⟩ := hrel
        clear H0
        by_cases hlt : F < xs.length
        · have hle := lg_le (xs.drop F) d
          rw [List.length_drop] at hle
          have hpos := lg_pos (HSP.out.drop F) (d := d) (by simp; omega) hd0 hd6'
          have HLR := hidd (c_LongestRun _ xs F d wr (HRX.out.kept HH.out.2) (CapOk_of hxc) HSM.out HD6.out hF)
          have HRUN : Hid (∀ c, 1 ≤ c → c ≤ lg (xs.drop F) d → runB ((xs.drop F).take c) d = true) := fun c h1 h2 => lg_run h1 h2
          have HGN : Hid (∀ c, 1 ≤ c → c ≤ lg (xs.drop F) d → ∀ t, RunPl d (xs.drop (F + c)) t → RunPl d xs ((po ++ [((c : Int), ip ((xs.drop F).take c))]) ++ t)) := by
            show ∀ c : Nat, _
            intro c h1 h2 t h3
            rw [List.append_assoc]
            exact HG.out _ ⟨c, h1, h2, rfl, by rw [List.drop_drop]; exact h3⟩
          obtain ⟨m, hm⟩ : ∃ m, lg (xs.drop F) d = m := ⟨_, rfl⟩
          rw [hm] at hle hpos HLR HRUN HGN
          clear hm HG
          go_wp2_with fail
          refine HLR.out.mono ?_
          rintro e w8 ⟨rfl, hB8⟩
          have H8 : Hid (OwP w8 w7.heap.size u18 po ∧ Below w7.heap.size w7 w8) := ⟨HH.out.1.kept hB8, bthen HH.out.2 hB8⟩
          clear HH HLR hB8
          have hm1 : ¬ (m : Int) < 1 := by omega
          obtain ⟨c, hc, hc1, hcm⟩ : ∃ c : Nat, RowKit.wrap64 (1 + ((M : Int) + (F : Int)) % (m : Int)) = (c : Int) ∧ 1 ≤ c ∧ c ≤ m := by
            have h1 := Nat.mod_lt (M + F) (show 0 < m by omega)
            refine ⟨1 + (M + F) % m, ?_, by omega, by omega⟩
            have e : 1 + ((M : Int) + (F : Int)) % (m : Int) = ((1 + (M + F) % m : Nat) : Int) := by push_cast; rfl
            rw [e]
            exact IntWalk.wrap64_in _ (by omega)
          have HC0 := hidd hc
          have hFc : F + c ≤ xs.length := by omega
          have HSO := hidd (c_SegmentOf _ xs F c d w8 (HRX.out.kept H8.out.2) (CapOk_of hxc) HSM.out HD6.out hlt hc1 hFc (HRUN.out c hc1 hcm))
          have HG2 := hidd (HGN.out c hc1 hcm)
          obtain ⟨p, hp⟩ : ∃ p, ip ((xs.drop F).take c) = p := ⟨_, rfl⟩
          rw [hp] at HSO HG2
          clear hc hp HGN HRUN
          go_wp2_with fail
          rw [HC0.out]
          refine HSO.out.mono ?_
          rintro e w9 ⟨ua, un, uc, rfl, hu, hB9⟩
          obtain ⟨⟨rs, q1, q2, q3⟩, hB8⟩ := H8.out
          have hrl : rs.length ≤ 61 := by have := q2.1; omega
          have HQ2 := hidd q2
          have HQ3 := hidd q3
          have q1c := ownsRow_kept_below q1 hB9
          have HQ23 := hidd (q2.kept hB9)
          have HU := hidd hu
          have HBt := hidd (bthen hB8 hB9)
          have hws : w7.heap.size ≤ w8.heap.size := hB8.size
          have hs3 : w7.heap.size ≤ w9.heap.size := HBt.out.size
          have hs2 : w8.heap.size ≤ w9.heap.size := hB9.size
          have hal1 : Below w9.heap.size w9 (w9.alloc (.cells #[(.int .i64 ((c : Int))), .slice ua un uc] 31)) := (Below.refl _ _).alloc (Nat.le_refl _) _
          have q1d := ownsRow_kept_below q1c hal1
          have hs4 : w7.heap.size ≤ (w9.alloc (.cells #[(.int .i64 ((c : Int))), .slice ua un uc] 31)).heap.size := Nat.le_trans hs3 hal1.size
          have HAL := hidd hal1
          have hRN : RdN ((w9.alloc (.cells #[(.int .i64 ((c : Int))), .slice ua un uc] 31)).alloc (.cells #[(.int .i64 ((c : Int))), .slice ua un uc] 31)) 2 (.slice (some ⟨w9.heap.size + 1, 0, none⟩) 1 1) 1 [(.int .i64 ((c : Int))), .slice ua un uc] := by simpa using RdN_seg (w9.alloc (.cells #[(.int .i64 ((c : Int))), .slice ua un uc] 31)) (c : Int) (.slice ua un uc)
          clear q1 q2 q3 q1c hB8 hB9 hu hal1 H8 HSO
          go_wp2_with (at_builtin; refine appN 23 31 Try.underlying23 infoSeg rfl (by decide) (by decide) rfl _ _ rfl w7.heap.size _ _ _ rfl (q1d.alloc _) _ _ _ rfl hRN (one_seg (c : Int) ua un uc) ?c1 ?c2 ?_)
          case c1 => omega
          case c2 => simp; omega
          intro v2 w10 ho10 hg10 _
          have hal : Below w9.heap.size w9 ((w9.alloc (.cells #[(.int .i64 ((c : Int))), .slice ua un uc] 31)).alloc (.cells #[(.int .i64 ((c : Int))), .slice ua un uc] 31)) := HAL.out.alloc (by simp) _
          have HO : Hid (OwP w10 w7.heap.size v2 (po ++ [((c : Int), p)]) ∧ Below w7.heap.size w7 w10) := by
            refine ⟨OwP_snoc (wr := w8) (q1d.alloc _) (HQ23.out.kept hal) HQ3.out (fun k hk j hj => HQ2.out.lt k hk j hj) (ownsRow_kept_below HU.out hal) hws ho10 hg10, ?_⟩
            exact (bthen HBt.out hal).grown hg10 (by simp; omega) (fun j hj => (q1d.lt j hj).1)
          clear ho10 hg10 q1d hal hRN
          go_wp2
          go_roundw
          case rel => exact ⟨F + c, _, by go_num, hFc, by simp; omega, HG2, HO⟩
          case measure => simp [intOf]; omega
        · have HRUNP : Hid (RunPl d xs po) := by
            have hy0 : xs.drop F = [] := List.drop_eq_nil_of_le (by omega)
            have h := HG.out [] (by rw [hy0]; rfl)
            rw [List.append_nil] at h
            exact h
          have hL := (HLEAST.out po HRUNP.out).2
          have hpb := (HLEAST.out po HRUNP.out).1
          have hro := HH.out.1.rd
          have hBw := HH.out.2
          obtain ⟨oa, oc, hu18, _⟩ := hro.form
          have HB1 := hidd hBw
          have HDI := hidd ((c_deInts _ _ xs xs wr (HRB.out.kept hBw) (HRX.out.kept hBw) (by omega) (by omega)).mono fun _ _ ⟨h1, h2⟩ => (⟨h1.trans (by simp), h2⟩ : _ = Ending.returned (.bool true) ∧ _))
          have HOC2 := hidd (fun W h => HOC.out u18 po W hpb h)
          have HRO := hidd hro
          obtain ⟨O, hO⟩ : ∃ O, cost a b po = O := ⟨_, rfl⟩
          rw [hO] at hL HOC2
          clear hO hBw hro HH HG hpb HOC hu18
          go_wp2_with fail
          refine HDI.out.mono ?_
          rintro e w8 ⟨rfl, hB⟩
          have HB2 := hidd (bthen HB1.out hB)
          have HRO2 := hidd (HRO.out.kept hB)
          clear hB HDI HRO
          go_wp2_with fail
          refine (HGB.out _ w8 (HRG.out.kept HB2.out)).mono ?_
          rintro e w9 ⟨rfl, hB⟩
          have HB3 := hidd (bthen HB2.out hB)
          have HRO3 := hidd (HRO2.out.kept hB)
          clear hB
          go_wp2_with fail
          refine (HOC2.out w9 HRO3.out).mono ?_
          rintro e w10 ⟨rfl, hB⟩
          have HB4 := hidd (bthen HB3.out hB)
          clear hB
          go_wp2_with fail
          refine (HPD.out w10 (HRP.out.kept HB4.out)).mono ?_
          rintro e w11 ⟨rfl, hB⟩
          have HB5 := hidd (bthen HA.out (bthen HB4.out hB))
          clear hB
          go_wp2
          go_ret
          exact ⟨rfl, HB5.out⟩

set_option maxRecDepth 100000 in
theorem lifted_FnCheapest (os : Os) (started : os.Started) (H : Type) (enc : TypeId × Value → H) :
    ReturnsInHanded {} Try.checked os 8 .any (Rows.fnCheapestSpec.pre6 enc Try.prog Try.f8 Rows.fnCheapestRow.domain false) (Rows.fnCheapestSpec.post enc Try.prog Try.f8 false true false false) := by
  refine returnsInHanded_of_change (C := Try.checked) own started (by kernel_rfl) Try.func8
    (ChangeSpec.witness6 (enc := enc) (C := Try.checked) false ⟨#[], #[.slice none 0 0, .slice none 0 0], []⟩ 8 (by kernel_rfl) (by kernel_rfl) (by kernel_rfl) (by kernel_rfl)) ?_
  intro W base args ds gs before hval0 hW hcnd _
  have hval : ∀ (j : Nat) t v, Try.f8.params[j]? = some t → args[j]? = some v → Value.okWide Try.prog W .any base t v := hval0
  have hW' := hW
  obtain ⟨p, q, hA0, hV, rfl, hfz, hnd⟩ := hW
  have hA : DataW.TrodAll enc Try.prog W 0 (fun _ => true) true Try.f8.params.toList args.toList ds p := hA0
  rw [Try.params8] at hA hval
  obtain ⟨v0, vs0, d0, ds0, p0, q0, hargs, rfl, rfl, h0, r0⟩ := trodAll_cons hA
  obtain ⟨v1, vs1, d1, ds1, p1, q1, rfl, rfl, rfl, h1, r1⟩ := trodAll_cons r0
  obtain ⟨rfl, rfl, rfl⟩ := trodAll_nil r1
  obtain rfl : args = #[v0, v1] := by cases args; simp_all
  obtain ⟨rfl, rfl⟩ := trodVars_none hV
  obtain ⟨l0, w0⟩ := open_bytes (hval 0 22 v0 rfl rfl) h0
  obtain ⟨l1, w1⟩ := open_bytes (hval 1 22 v1 rfl rfl) h1
  refine (walk_FnCheapest v0 l0 w0 v1 l1 w1).mono fun e W' ⟨he, hg⟩ => ?_
  subst he
  exact ⟨_, rfl, law_post laidOut hW' rfl (by kernel_rfl) rfl Try.underlying4 rfl rfl rfl rfl hg⟩
theorem factA_FnCheapest : factsA Try.prog 8 Try.f8 Rows.fnCheapestSpec Rows.fnCheapestRow = true := by kernel_rfl
theorem fact9_FnCheapest : (Rows.fnCheapestRow.inPlace == Try.prog.inPlace 8) = true := by kernel_rfl
theorem fact10_FnCheapest : (Rows.fnCheapestRow.unfollowed == Try.prog.unfollowed 8) = true := by kernel_rfl
theorem fact11_FnCheapest : (Rows.fnCheapestRow.recurses == Try.prog.recurses 8) = true := by kernel_rfl
theorem fact12_FnCheapest : (Rows.fnCheapestRow.named == Try.prog.varsNamed 8) = true := by kernel_rfl
theorem factB_FnCheapest : factsB Try.prog 8 Try.f8 Rows.fnCheapestSpec Rows.fnCheapestRow = true := by kernel_rfl
theorem factN_FnCheapest : Try.prog.funcNamed Rows.fnCheapestRow.func = some 8 := by kernel_rfl
theorem proved_FnCheapest : Rows.FnCheapestSaid :=
  OpenClaim.holds_of_wide 8 Try.f8 rfl rfl rfl rfl rfl rfl rfl ⟨rfl, rfl, rfl, rfl, rfl⟩ rfl rfl rfl rfl rfl factN_FnCheapest Try.func8 (closed_of factA_FnCheapest fact9_FnCheapest fact10_FnCheapest fact11_FnCheapest fact12_FnCheapest factB_FnCheapest rfl rfl rfl)
    (of_decide_eq_true (by kernel_rfl)) (by unfold Func.isWrapper; first | (rw [if_pos (by decide +kernel)]; kernel_rfl) | (rw [if_neg (by decide +kernel)]; exact ⟨rfl, rfl⟩))
    (fun os started H enc _ => lifted_FnCheapest os started H enc)
end Go.Proofs.Ytkfejnifbkgihaa
