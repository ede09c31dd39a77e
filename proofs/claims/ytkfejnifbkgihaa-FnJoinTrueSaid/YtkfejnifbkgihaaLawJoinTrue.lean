/- FnJoinTrue: a plan with two joined segments has the same table and one segment less, with a polynomial of at most the degree. No condition. -/
import Derived.Test.YtkfejnifbkgihaaPlan12
import Derived.Test.YtkfejnifbkgihaaDe5
import Derived.Test.YtkfejnifbkgihaaDrJ
import Derived.Test.YtkfejnifbkgihaaJnP
namespace Go.Proofs.Ytkfejnifbkgihaa
set_option linter.unusedVariables false
open Go.ChangeShapes Go.WideShapes Go.ChangeAt Go.RowKit

theorem k_de_same (va vb : Value) (xs : List Int) (w : World) (ha : RdI w va xs) (hb : RdI w vb xs) (hx : xs.length ≤ 1099511627776) :
    Calls Try.prog 12 #[va, vb] w fun e w' => e = .returned (.bool true) ∧ Below w.heap.size w w' :=
  (c_deInts va vb xs xs w ha hb (by omega) (by omega)).mono fun _ _ ⟨h1, h2⟩ => ⟨by rw [h1]; simp, h2⟩

theorem keepSix {w wa wb : World} {b1 o1 p1 b2 o2 p2 : Nat} {v1 v2 u1 u2 : Value} (h1 : b1 < w.heap.size) (h2 : b2 < w.heap.size) (h : Below w.heap.size w wa ∧ wa.cell? ⟨b1, o1, none⟩ = some v1 ∧ wa.cell? ⟨b1, p1, none⟩ = some v2 ∧ wa.cell? ⟨b2, o2, none⟩ = some u1 ∧ wa.cell? ⟨b2, p2, none⟩ = some u2) (k : Below wa.heap.size wa wb) :
    Below w.heap.size w wb ∧ wb.cell? ⟨b1, o1, none⟩ = some v1 ∧ wb.cell? ⟨b1, p1, none⟩ = some v2 ∧ wb.cell? ⟨b2, o2, none⟩ = some u1 ∧ wb.cell? ⟨b2, p2, none⟩ = some u2 := keep4 h1 h2 h k

set_option maxHeartbeats 4000000 in
set_option maxRecDepth 100000 in
theorem walk_FnJoinTrue (v : Value) (cs : List Int) {w : World} (hw : RdL w v (cs.map (Value.int .u8)) ∧ cs.length ≤ 9223372036854775807 ∧ (∀ n ∈ cs, (Lit.int .u8 n).wf = true) ∧ CapOk v) :
    Calls Try.prog 7 #[v] w fun e w' => e = .returned (.bool true) ∧ Below w.heap.size w w' := by
  obtain ⟨hR, hlen, hwf, hcap⟩ := hw
  have hR0 := hR
  obtain ⟨a, cap, rfl, hR1⟩ := hR0
  clear hR1
  simp only [List.length_map] at hR hcap ⊢
  by_cases hbig : 1048576 < cs.length
  · clear hR hcap hwf
    go_enter Try.func7, Try.ntmps7
    go_wp2
    go_ret
    exact ⟨rfl, Below.refl _ _⟩
  · go_enter Try.func7, Try.ntmps7
    go_wp2_with fail
    refine (c_DrawJoinSegments _ cs w hR (by omega) hwf hcap).mono ?_
    rintro e w1 ⟨vp, pl, i, t, rfl, o_p, hd, ⟨hi0, hi1⟩, ⟨ht0, ht1⟩, hA⟩
    have hpl62 := hd.1
    have HM : Hid (∀ s ∈ pl, s.2.length ≤ 7) := hd.2
    have HPX : Hid (∀ s ∈ pl, s.2.length ≤ 1099511627776) := fun s hs => by have := HM.out s hs; omega
    have hrp := o_p.rd
    obtain ⟨pa, pc, rfl, _⟩ := hrp.form
    clear hR hwf hcap o_p hd
    have HIM := hidd (c_impl_JoinSegments _ pl i t w1 hrp (by omega) HPX.out hi1 hi0)
    have HSP : Hid (∀ W, RdP W (.slice pa pl.length pc) pl → Calls Try.prog 20 #[.slice pa pl.length pc, (.int .i64 (i)), (.int .i64 (t))] W (FreshPB W (jnL pl i t) (jnB pl i t))) := fun W h => c_spec_JoinSegments _ pl i t W h (by omega) HPX.out hi1 hi0
    have hll := jnL_len pl i t
    have HLM := hidd (jnL_mem i t (by omega) HM.out)
    have HFA : Hid (jnB pl i t = true → jnL pl i t = jnE pl i.toNat) := fun h => if_pos h
    have HB0 : Hid (jnB pl i t = jnB pl i t) := rfl
    obtain ⟨ql, hql⟩ : ∃ ql, jnL pl i t = ql := ⟨_, rfl⟩
    rw [hql] at HIM HSP hll HLM HFA
    have hql62 : ql.length ≤ 63 := by omega
    have HQX : Hid (∀ s ∈ ql, s.2.length ≤ 1099511627776) := fun s hs => by have := HLM.out s hs; omega
    have HDP : Hid (∀ u1 u2 W, RdP W u1 ql → RdP W u2 ql → Calls Try.prog 29 #[u1, u2] W fun e w' => e = .returned (.bool true) ∧ Below W.heap.size W w') :=
      fun u1 u2 W h1 h2 => k_de_plans u1 u2 _ W h1 h2 (by omega) HQX.out
    clear hll hql HB0
    cases hv : jnB pl i t
    · rw [hv] at HIM HSP
      clear hv HFA
      go_wp2_with fail
      refine HIM.out.mono ?_
      rintro e w2 ⟨vx, rfl, o_x, hB2⟩
      have hA2 := bthen hA hB2
      have hrp2 := hrp.kept hB2
      have hrx2 := o_x.rd
      obtain ⟨xa, xc, rfl, _⟩ := hrx2.form
      clear hB2 hA hrp o_x
      go_wp2_with fail
      refine (HSP.out _ hrp2).mono ?_
      rintro e w3 ⟨vs, rfl, o_s, hB3⟩
      have hA3 := bthen hA2 hB3
      have hrx3 := hrx2.kept hB3
      have hrs3 := o_s.rd
      clear hB3 hA2 hrx2 hrp2 o_s
      go_wp2_with fail
      refine (HDP.out _ _ _ hrx3 hrs3).mono ?_
      rintro e w4 ⟨rfl, hB⟩
      replace hrx3 := hrx3.kept hB
      replace hrs3 := hrs3.kept hB
      replace hA3 := bthen hA3 hB
      clear hB
      go_wp2_with fail
      refine (HDP.out _ _ _ hrx3 hrs3).mono ?_
      rintro e w5 ⟨rfl, hB⟩
      replace hrx3 := hrx3.kept hB
      replace hrs3 := hrs3.kept hB
      replace hA3 := bthen hA3 hB
      clear hB
      go_wp2
      go_ret
      exact ⟨rfl, hA3⟩
    · obtain ⟨j1, j2, j3, j4, j5⟩ := jnE_facts hv ht0
      obtain ⟨fp, _, hi00, hi3, _⟩ := jnB_iff hv
      have hql := HFA.out hv
      rw [← hql] at j1 j2 j3 j4
      rw [hv] at HIM HSP
      have HPV1 : Hid (∀ W, RdP W (.slice pa pl.length pc) pl → Calls Try.prog 10 #[.slice pa pl.length pc] W (FreshIB W (plV pl) true)) := by
        show ∀ W, _
        intro W h
        have := c_impl_PlanValues _ pl W h (by omega) HPX.out
        rwa [fp, show pvL pl = plV pl from if_pos fp] at this
      have HPV2 : Hid (∀ u W, RdP W u ql → Calls Try.prog 10 #[u] W (FreshIB W (plV pl) true)) := by
        show ∀ u W, _
        intro u W h
        have := c_impl_PlanValues _ ql W h (by omega) HQX.out
        rwa [j1, show pvL ql = plV ql from if_pos j1, j2] at this
      have hvl := (tabB_iff (plV_tab fp)).2.1
      obtain ⟨I, rfl⟩ : ∃ I : Nat, i = I := ⟨i.toNat, by omega⟩
      rw [Int.toNat_natCast] at j4 j5 hi3
      have hcb := segB_cnt pl (planB_iff.1 fp).2.1
      have c1 := cntB_iff.1 (all_getG hcb (show I < pl.length by omega))
      have c2 := cntB_iff.1 (all_getG hcb hi3)
      have hIq : I < ql.length := by omega
      obtain ⟨V, hV⟩ : ∃ V, plV pl = V := ⟨_, rfl⟩
      rw [hV] at HPV1 HPV2 hvl
      have b1 : ((ql.length : Int) == (pl.length : Int) - 1) = true := beq_iff_eq.2 (by omega)
      obtain ⟨x1, hx1⟩ : ∃ x, (pl.getD I noG).1 = x := ⟨_, rfl⟩
      obtain ⟨x2, hx2⟩ : ∃ x, (pl.getD (I + 1) noG).1 = x := ⟨_, rfl⟩
      rw [hx1] at j4 c1
      rw [hx2] at j4 c2
      have HX1 := hidd hx1
      have HX2 := hidd hx2
      have HJ4 := hidd j4
      obtain ⟨dg, hdg⟩ : ∃ dg, degP (ip (plV (jnP pl I))) = dg := ⟨_, rfl⟩
      have HDG := hidd hdg
      rw [hdg] at j5
      have hip7 := (polyB_iff (runB_iff (jnB_iff hv).2.2.2.2).2.2.2).2.1
      rw [Int.toNat_natCast] at hip7
      obtain ⟨p, hp⟩ : ∃ p, ip (plV (jnP pl I)) = p := ⟨_, rfl⟩
      rw [hp] at HJ4 HDG hip7
      clear j1 j2 j3 j4 fp hql hv hV HFA hx1 hx2 hdg hp hcb
      go_wp2_with fail
      refine HIM.out.mono ?_
      rintro e w2 ⟨vx, rfl, o_x, hB2⟩
      have hA2 := bthen hA hB2
      have hrp2 := hrp.kept hB2
      have hrx2 := o_x.rd
      obtain ⟨xa, xc, rfl, _⟩ := hrx2.form
      clear hB2 hA hrp o_x
      go_wp2_with fail
      refine (HSP.out _ hrp2).mono ?_
      rintro e w3 ⟨vs, rfl, o_s, hB3⟩
      have hA3 := bthen hA2 hB3
      have hrp3 := hrp2.kept hB3
      have hrx3 := hrx2.kept hB3
      have hrs3 := o_s.rd
      clear hB3 hA2 hrx2 hrp2 o_s
      go_wp2_with fail
      refine (HDP.out _ _ _ hrx3 hrs3).mono ?_
      rintro e w4 ⟨rfl, hB⟩
      replace hrx3 := hrx3.kept hB
      replace hrp3 := hrp3.kept hB
      replace hA3 := bthen hA3 hB
      clear hB hrs3
      go_wp2_with fail
      refine (HPV1.out _ hrp3).mono ?_
      rintro e w5 ⟨va, rfl, o_a, hB⟩
      replace hrx3 := hrx3.kept hB
      replace hrp3 := hrp3.kept hB
      replace hA3 := bthen hA3 hB
      have hra := owns_RdI o_a
      clear hB o_a
      go_wp2_with fail
      refine (HPV2.out _ _ hrx3).mono ?_
      rintro e w6 ⟨vb, rfl, o_b, hB⟩
      replace hrx3 := hrx3.kept hB
      replace hrp3 := hrp3.kept hB
      replace hA3 := bthen hA3 hB
      replace hra := hra.kept hB
      have hrb := owns_RdI o_b
      clear hB o_b
      obtain ⟨b, o, pa1, pn1, pc1, rfl, hb, e1, z1, z2, z3, z4⟩ := hrp3.cell (Below.refl _ _) (show I < pl.length by omega)
      clear z1 z2 z3 z4
      obtain ⟨_, _, _, _, _, he, _, e2, z1, z2, z3, z4⟩ := hrp3.cell (Below.refl _ _) hi3
      clear z1 z2 z3 z4
      simp only [Option.some.injEq, Addr.mk.injEq] at he
      obtain ⟨rfl, rfl, _⟩ := he
      obtain ⟨b2, o2, qa, qn, qc, rfl, hb2, f1, f2, hq, hqc, hqn⟩ := hrx3.cell (Below.refl _ _) hIq
      clear hqn
      rw [HX1.out] at e1
      rw [HX2.out] at e2
      rw [HJ4.out] at f1 hq
      have f1 : w6.cell? ⟨b2, o2 + I * 2, none⟩ = some (.int .i64 (x1 + x2)) := f1
      have hq : RdI w6 (.slice qa qn qc) p := hq
      have hk0 : Below w6.heap.size w6 w6.drew ∧ w6.drew.cell? ⟨b, o + I * 2, none⟩ = some (.int .i64 x1) ∧ w6.drew.cell? ⟨b, o + (I + 1) * 2, none⟩ = some (.int .i64 x2) ∧ w6.drew.cell? ⟨b2, o2 + I * 2, none⟩ = some (.int .i64 (x1 + x2)) ∧ w6.drew.cell? ⟨b2, o2 + I * 2 + 1, none⟩ = some (.slice qa qn qc) := ⟨(Below.refl _ _).drew, e1, e2, f1, f2⟩
      have HDI : Hid (∀ W, (Below w6.heap.size w6 W ∧ W.cell? ⟨b, o + I * 2, none⟩ = some (.int .i64 x1) ∧ W.cell? ⟨b, o + (I + 1) * 2, none⟩ = some (.int .i64 x2) ∧ W.cell? ⟨b2, o2 + I * 2, none⟩ = some (.int .i64 (x1 + x2)) ∧ W.cell? ⟨b2, o2 + I * 2 + 1, none⟩ = some (.slice qa qn qc)) → ∀ u1 u2, RdI w6 u1 V → RdI w6 u2 V → Calls Try.prog 12 #[u1, u2] W fun e w' => e = .returned (.bool true) ∧ Below W.heap.size W w') :=
        fun W h u1 u2 h1 h2 => k_de_same u1 u2 V W (h1.kept h.1) (h2.kept h.1) (by omega)
      have HDD : Hid (∀ W, (Below w6.heap.size w6 W ∧ W.cell? ⟨b, o + I * 2, none⟩ = some (.int .i64 x1) ∧ W.cell? ⟨b, o + (I + 1) * 2, none⟩ = some (.int .i64 x2) ∧ W.cell? ⟨b2, o2 + I * 2, none⟩ = some (.int .i64 (x1 + x2)) ∧ W.cell? ⟨b2, o2 + I * 2 + 1, none⟩ = some (.slice qa qn qc)) → Calls Try.prog 15 #[.slice qa qn qc] W fun e w' => e = .returned (.int .i64 (dg)) ∧ Below W.heap.size W w') := by
        show ∀ W, _ → _
        intro W h
        have := c_DegreeOf _ p W (hq.kept h.1) (CapOk_of hqc) (by omega)
        rwa [HDG.out] at this
      have g1 : IntKind.i64.wrap ((I : Int) + 1) = (I : Int) + 1 := IntWalk.i64_in _ (by omega)
      have g2 : IntKind.i64.wrap (x1 + x2) = x1 + x2 := IntWalk.i64_in _ (by omega)
      have g3 : ((I : Int) + 1).toNat = I + 1 := by omega
      have g4 : IntKind.i64.wrap ((pl.length : Int) - 1) = (pl.length : Int) - 1 := IntWalk.i64_in _ (by omega)
      have g5 : (0 : Int) ≤ (I : Int) + 1 := by omega
      have g6 : (I : Int) + 1 < (pl.length : Int) := by omega
      have g7 : (I : Int) < (pl.length : Int) := by omega
      have g8 : (I : Int) < (ql.length : Int) := by omega
      have g9 : (0 : Int) ≤ (I : Int) := by omega
      have b2' : ((x1 + x2) == (x1 + x2)) = true := by simp
      have HRA := hidd hra
      have HRB := hidd hrb
      have HA3 := hidd hA3
      clear hra hrb hrp3 hrx3 hq e1 e2 f1 f2 hA3
      go_wp2
      go_region_held3 (fun wx => Below w6.heap.size w6 wx ∧ wx.cell? ⟨b, o + I * 2, none⟩ = some (.int .i64 x1) ∧ wx.cell? ⟨b, o + (I + 1) * 2, none⟩ = some (.int .i64 x2) ∧ wx.cell? ⟨b2, o2 + I * 2, none⟩ = some (.int .i64 (x1 + x2)) ∧ wx.cell? ⟨b2, o2 + I * 2 + 1, none⟩ = some (.slice qa qn qc)) (first | assumption | exact hk0 | exact keep4 hb hb2 (by assumption) (by assumption))
        (first | (go_at_call 12; refine (HDI.out _ (by assumption) _ _ HRA.out HRB.out).mono ?_; rintro e wy ⟨rfl, hby⟩) | (go_at_call 15; refine (HDD.out _ (by assumption)).mono ?_; rintro e wz ⟨rfl, hbz⟩))
      rename_i hS
      have HB := hidd (bthen HA3.out hS.1)
      clear hS hk0
      go_wp2
      go_ret
      exact ⟨rfl, HB.out⟩

set_option maxRecDepth 100000 in
theorem lifted_FnJoinTrue (os : Os) (started : os.Started) (H : Type) (enc : TypeId × Value → H) :
    ReturnsInHanded {} Try.checked os 7 .any (Rows.fnJoinTrueSpec.pre6 enc Try.prog Try.f7 Rows.fnJoinTrueRow.domain false) (Rows.fnJoinTrueSpec.post enc Try.prog Try.f7 false true false false) := by
  refine returnsInHanded_of_change (C := Try.checked) own started (by kernel_rfl) Try.func7
    (ChangeSpec.witness6 (enc := enc) (C := Try.checked) false ⟨#[], #[.slice none 0 0], []⟩ 8 (by kernel_rfl) (by kernel_rfl) (by kernel_rfl) (by kernel_rfl)) ?_
  intro W base args ds gs before hval0 hW hcnd _
  have hval : ∀ (j : Nat) t v, Try.f7.params[j]? = some t → args[j]? = some v → Value.okWide Try.prog W .any base t v := hval0
  have hW' := hW
  obtain ⟨p, q, hA0, hV, rfl, hfz, hnd⟩ := hW
  have hA : DataW.TrodAll enc Try.prog W 0 (fun _ => true) true Try.f7.params.toList args.toList ds p := hA0
  rw [Try.params7] at hA hval
  obtain ⟨v0, vs0, d0, ds0, p0, q0, hargs, rfl, rfl, h0, r0⟩ := trodAll_cons hA
  obtain ⟨rfl, rfl, rfl⟩ := trodAll_nil r0
  obtain rfl : args = #[v0] := by cases args; simp_all
  obtain ⟨rfl, rfl⟩ := trodVars_none hV
  obtain ⟨l0, w0⟩ := open_bytes (hval 0 22 v0 rfl rfl) h0
  refine (walk_FnJoinTrue v0 l0 w0).mono fun e W' ⟨he, hg⟩ => ?_
  subst he
  exact ⟨_, rfl, law_post laidOut hW' rfl (by kernel_rfl) rfl Try.underlying4 rfl rfl rfl rfl hg⟩
theorem factA_FnJoinTrue : factsA Try.prog 7 Try.f7 Rows.fnJoinTrueSpec Rows.fnJoinTrueRow = true := by kernel_rfl
theorem fact9_FnJoinTrue : (Rows.fnJoinTrueRow.inPlace == Try.prog.inPlace 7) = true := by kernel_rfl
theorem fact10_FnJoinTrue : (Rows.fnJoinTrueRow.unfollowed == Try.prog.unfollowed 7) = true := by kernel_rfl
theorem fact11_FnJoinTrue : (Rows.fnJoinTrueRow.recurses == Try.prog.recurses 7) = true := by kernel_rfl
theorem fact12_FnJoinTrue : (Rows.fnJoinTrueRow.named == Try.prog.varsNamed 7) = true := by kernel_rfl
theorem factB_FnJoinTrue : factsB Try.prog 7 Try.f7 Rows.fnJoinTrueSpec Rows.fnJoinTrueRow = true := by kernel_rfl
theorem factN_FnJoinTrue : Try.prog.funcNamed Rows.fnJoinTrueRow.func = some 7 := by kernel_rfl
theorem proved_FnJoinTrue : Rows.FnJoinTrueSaid :=
  OpenClaim.holds_of_wide 7 Try.f7 rfl rfl rfl rfl rfl rfl rfl ⟨rfl, rfl, rfl, rfl, rfl⟩ rfl rfl rfl rfl rfl factN_FnJoinTrue Try.func7 (closed_of factA_FnJoinTrue fact9_FnJoinTrue fact10_FnJoinTrue fact11_FnJoinTrue fact12_FnJoinTrue factB_FnJoinTrue rfl rfl rfl)
    (of_decide_eq_true (by kernel_rfl)) (by unfold Func.isWrapper; first | (rw [if_pos (by decide +kernel)]; kernel_rfl) | (rw [if_neg (by decide +kernel)]; exact ⟨rfl, rfl⟩))
    (fun os started H enc _ => lifted_FnJoinTrue os started H enc)
end Go.Proofs.Ytkfejnifbkgihaa
