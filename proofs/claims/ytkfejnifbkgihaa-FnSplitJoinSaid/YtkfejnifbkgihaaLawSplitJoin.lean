/- FnSplitJoin: a plan in which a segment is split has the same table and one segment more, and joining both parts restores the table and the number. No condition. -/
import Derived.Test.YtkfejnifbkgihaaPlan12
import Derived.Test.YtkfejnifbkgihaaDe5
import Derived.Test.YtkfejnifbkgihaaDrJ
import Derived.Test.YtkfejnifbkgihaaJnP
namespace Go.Proofs.Ytkfejnifbkgihaa
set_option linter.unusedVariables false
open Go.ChangeShapes Go.WideShapes Go.ChangeAt Go.RowKit

theorem k_de_same (va vb : Value) (xs : List Int) (w : World) (ha : RdI w va xs) (hb : RdI w vb xs) (hx : xs.length ≤ 1099511627776) :
    Calls Try.prog 12 #[va, vb] w fun e w' => e = .returned (.bool true) ∧ Below w.heap.size w w' :=
  (c_deInts va vb xs xs w ha hb (by omega) (by omega)).mono fun _ _ ⟨h1, h2⟩ => ⟨by rw [h1]; simp, h2⟩

set_option maxHeartbeats 4000000 in
set_option maxRecDepth 100000 in
theorem walk_FnSplitJoin (v : Value) (cs : List Int) {w : World} (hw : RdL w v (cs.map (Value.int .u8)) ∧ cs.length ≤ 9223372036854775807 ∧ (∀ n ∈ cs, (Lit.int .u8 n).wf = true) ∧ CapOk v) :
    Calls Try.prog 6 #[v] w fun e w' => e = .returned (.bool true) ∧ Below w.heap.size w w' := by
  obtain ⟨hR, hlen, hwf, hcap⟩ := hw
  have hR0 := hR
  obtain ⟨a, cap, rfl, hR1⟩ := hR0
  clear hR1
  simp only [List.length_map] at hR hcap ⊢
  by_cases hbig : 1048576 < cs.length
  · clear hR hcap hwf
    go_enter Try.func6, Try.ntmps6
    go_wp2
    go_ret
    exact ⟨rfl, Below.refl _ _⟩
  · go_enter Try.func6, Try.ntmps6
    go_wp2_with fail
    refine (c_DrawSplitSegment _ cs w hR (by omega) hwf hcap).mono ?_
    rintro e w1 ⟨vp, pl, i, t, rfl, o_p, hd, ⟨hi0, hi1⟩, ⟨ht0, ht1⟩, hA⟩
    have hpl62 := hd.1
    have HM : Hid (∀ s ∈ pl, s.2.length ≤ 7) := hd.2
    have HPX : Hid (∀ s ∈ pl, s.2.length ≤ 1099511627776) := fun s hs => by have := HM.out s hs; omega
    have hrp := o_p.rd
    obtain ⟨pa, pc, rfl, _⟩ := hrp.form
    clear hR hwf hcap o_p hd
    have HIM := hidd (c_impl_SplitSegment _ pl i t w1 hrp (by omega) HPX.out hi1 hi0)
    have HSP : Hid (∀ W, RdP W (.slice pa pl.length pc) pl → Calls Try.prog 34 #[.slice pa pl.length pc, (.int .i64 (i)), (.int .i64 (t))] W (FreshPB W (spL pl i t) (spB pl i t))) := fun W h => c_spec_SplitSegment _ pl i t W h (by omega) (fun s hs => by have := HM.out s hs; omega) hi1 hi0
    have hll := spL_len pl i t
    have HLM := hidd (spL_mem i t HM.out)
    have HFA : Hid (spB pl i t = true → spL pl i t = spE pl i.toNat t.toNat) := fun h => if_pos h
    have HB0 : Hid (spB pl i t = spB pl i t) := rfl
    obtain ⟨ql, hql⟩ : ∃ ql, spL pl i t = ql := ⟨_, rfl⟩
    rw [hql] at HIM HSP hll HLM HFA
    have hql62 : ql.length ≤ 63 := by omega
    have HQX : Hid (∀ s ∈ ql, s.2.length ≤ 1099511627776) := fun s hs => by have := HLM.out s hs; omega
    have HDP : Hid (∀ u1 u2 W, RdP W u1 ql → RdP W u2 ql → Calls Try.prog 29 #[u1, u2] W fun e w' => e = .returned (.bool true) ∧ Below W.heap.size W w') :=
      fun u1 u2 W h1 h2 => k_de_plans u1 u2 _ W h1 h2 (by omega) HQX.out
    clear hll hql HB0
    cases hv : spB pl i t
    · rw [hv] at HIM HSP
      clear hv HFA
      go_wp2_with fail
      refine HIM.out.mono ?_
      rintro e w2 ⟨vx, rfl, o_x, hB2⟩
      have hA2 := bthen hA hB2
      have hrp2 := hrp.kept hB2
      have hrx2 := o_x.rd
      obtain ⟨xa, xc, rfl, _⟩ := hrx2.form
      clear hB2 hA hrp o_x
      go_wp2_with fail
      refine (HSP.out _ hrp2).mono ?_
      rintro e w3 ⟨vs, rfl, o_s, hB3⟩
      have hA3 := bthen hA2 hB3
      have hrx3 := hrx2.kept hB3
      have hrs3 := o_s.rd
      clear hB3 hA2 hrx2 hrp2 o_s
      go_wp2_with fail
      refine (HDP.out _ _ _ hrx3 hrs3).mono ?_
      rintro e w4 ⟨rfl, hB⟩
      replace hrx3 := hrx3.kept hB
      replace hrs3 := hrs3.kept hB
      replace hA3 := bthen hA3 hB
      clear hB
      go_wp2_with fail
      refine (HDP.out _ _ _ hrx3 hrs3).mono ?_
      rintro e w5 ⟨rfl, hB⟩
      replace hrx3 := hrx3.kept hB
      replace hrs3 := hrs3.kept hB
      replace hA3 := bthen hA3 hB
      clear hB
      go_wp2
      go_ret
      exact ⟨rfl, hA3⟩
    · obtain ⟨f1, f2, f3, f4⟩ := spE_facts hv
      have fp := (spB_iff hv).1
      have hi3 := (spB_iff hv).2.2.1
      have hi00 := (spB_iff hv).2.1
      have hql := HFA.out hv
      rw [← hql] at f1 f2 f3 f4
      rw [hv] at HIM HSP
      obtain ⟨j1, j2, j3, _, _⟩ := jnE_facts f4 (by omega)
      have hjl : jnL ql i 6 = jnE ql i.toNat := if_pos f4
      have HPV1 : Hid (∀ W, RdP W (.slice pa pl.length pc) pl → Calls Try.prog 10 #[.slice pa pl.length pc] W (FreshIB W (plV pl) true)) := by
        show ∀ W, _
        intro W h
        have := c_impl_PlanValues _ pl W h (by omega) HPX.out
        rwa [fp, show pvL pl = plV pl from if_pos fp] at this
      have HPV2 : Hid (∀ u W, RdP W u ql → Calls Try.prog 10 #[u] W (FreshIB W (plV pl) true)) := by
        show ∀ u W, _
        intro u W h
        have := c_impl_PlanValues _ ql W h (by omega) HQX.out
        rwa [f1, show pvL ql = plV ql from if_pos f1, f2] at this
      have HJN : Hid (∀ u W, RdP W u ql → Calls Try.prog 22 #[u, (.int .i64 (i)), (.int .i64 (6))] W (FreshPB W (jnE ql i.toNat) true)) := by
        show ∀ u W, _
        intro u W h
        have := c_impl_JoinSegments u ql i 6 W h (by omega) HQX.out hi1 hi0
        rwa [hjl, f4] at this
      obtain ⟨rl, hrl⟩ : ∃ rl, jnE ql i.toNat = rl := ⟨_, rfl⟩
      have hjm := jnL_mem i 6 (M := 7) (by omega) HLM.out
      rw [hjl, hrl] at hjm
      rw [hrl] at j1 j2 j3 HJN
      have HPV3 : Hid (∀ u W, RdP W u rl → Calls Try.prog 10 #[u] W (FreshIB W (plV pl) true)) := by
        show ∀ u W, _
        intro u W h
        have := c_impl_PlanValues _ rl W h (by omega) (fun s hs => by have := hjm s hs; omega)
        rwa [j1, show pvL rl = plV rl from if_pos j1, j2, f2] at this
      have hvl := (tabB_iff (plV_tab fp)).2.1
      have hlr : rl.length = pl.length := by omega
      obtain ⟨V, hV⟩ : ∃ V, plV pl = V := ⟨_, rfl⟩
      rw [hV] at HPV1 HPV2 HPV3 hvl
      have b1 : ((ql.length : Int) != (pl.length : Int) + 1) = false := by rw [f3]; simp
      have b2 : ((rl.length : Int) == (pl.length : Int)) = true := by rw [hlr]; simp
      clear f1 f2 f3 f4 fp hql hv hjl hrl hjm j1 j2 j3 hV HFA hlr
      go_wp2_with fail
      refine HIM.out.mono ?_
      rintro e w2 ⟨vx, rfl, o_x, hB2⟩
      have hA2 := bthen hA hB2
      have hrp2 := hrp.kept hB2
      have hrx2 := o_x.rd
      obtain ⟨xa, xc, rfl, _⟩ := hrx2.form
      clear hB2 hA hrp o_x
      go_wp2_with fail
      refine (HSP.out _ hrp2).mono ?_
      rintro e w3 ⟨vs, rfl, o_s, hB3⟩
      have hA3 := bthen hA2 hB3
      have hrp3 := hrp2.kept hB3
      have hrx3 := hrx2.kept hB3
      have hrs3 := o_s.rd
      clear hB3 hA2 hrx2 hrp2 o_s
      go_wp2_with fail
      refine (HDP.out _ _ _ hrx3 hrs3).mono ?_
      rintro e w4 ⟨rfl, hB⟩
      replace hrx3 := hrx3.kept hB
      replace hrp3 := hrp3.kept hB
      replace hA3 := bthen hA3 hB
      clear hB hrs3
      go_wp2_with fail
      refine (HPV1.out _ hrp3).mono ?_
      rintro e w5 ⟨va, rfl, o_a, hB⟩
      replace hrx3 := hrx3.kept hB
      replace hA3 := bthen hA3 hB
      have hra := owns_RdI o_a
      clear hB hrp3 o_a
      go_wp2_with fail
      refine (HPV2.out _ _ hrx3).mono ?_
      rintro e w6 ⟨vb, rfl, o_b, hB⟩
      replace hrx3 := hrx3.kept hB
      replace hA3 := bthen hA3 hB
      replace hra := hra.kept hB
      have hrb := owns_RdI o_b
      clear hB o_b
      go_wp2_with fail
      refine (HJN.out _ _ hrx3).mono ?_
      rintro e w7 ⟨vy, rfl, o_y, hB⟩
      replace hA3 := bthen hA3 hB
      replace hra := hra.kept hB
      replace hrb := hrb.kept hB
      have hry := o_y.rd
      obtain ⟨ya, yc, rfl, _⟩ := hry.form
      clear hB o_y hrx3
      go_wp2_with fail
      refine (k_de_same _ _ V _ hra hrb (by omega)).mono ?_
      rintro e w8 ⟨rfl, hB⟩
      replace hA3 := bthen hA3 hB
      replace hra := hra.kept hB
      replace hry := hry.kept hB
      clear hB hrb
      go_wp2_with fail
      refine (HPV3.out _ _ hry).mono ?_
      rintro e w9 ⟨vc, rfl, o_c, hB⟩
      replace hA3 := bthen hA3 hB
      replace hra := hra.kept hB
      have hrc := owns_RdI o_c
      clear hB o_c hry
      go_wp2_with fail
      refine (k_de_same _ _ V _ hrc hra (by omega)).mono ?_
      rintro e w10 ⟨rfl, hB⟩
      replace hA3 := bthen hA3 hB
      clear hB hra hrc
      go_wp2
      go_ret
      exact ⟨rfl, hA3⟩

set_option maxRecDepth 100000 in
theorem lifted_FnSplitJoin (os : Os) (started : os.Started) (H : Type) (enc : TypeId × Value → H) :
    ReturnsInHanded {} Try.checked os 6 .any (Rows.fnSplitJoinSpec.pre6 enc Try.prog Try.f6 Rows.fnSplitJoinRow.domain false) (Rows.fnSplitJoinSpec.post enc Try.prog Try.f6 false true false false) := by
  refine returnsInHanded_of_change (C := Try.checked) own started (by kernel_rfl) Try.func6
    (ChangeSpec.witness6 (enc := enc) (C := Try.checked) false ⟨#[], #[.slice none 0 0], []⟩ 8 (by kernel_rfl) (by kernel_rfl) (by kernel_rfl) (by kernel_rfl)) ?_
  intro W base args ds gs before hval0 hW hcnd _
  have hval : ∀ (j : Nat) t v, Try.f6.params[j]? = some t → args[j]? = some v → Value.okWide Try.prog W .any base t v := hval0
  have hW' := hW
  obtain ⟨p, q, hA0, hV, rfl, hfz, hnd⟩ := hW
  have hA : DataW.TrodAll enc Try.prog W 0 (fun _ => true) true Try.f6.params.toList args.toList ds p := hA0
  rw [Try.params6] at hA hval
  obtain ⟨v0, vs0, d0, ds0, p0, q0, hargs, rfl, rfl, h0, r0⟩ := trodAll_cons hA
  obtain ⟨rfl, rfl, rfl⟩ := trodAll_nil r0
  obtain rfl : args = #[v0] := by cases args; simp_all
  obtain ⟨rfl, rfl⟩ := trodVars_none hV
  obtain ⟨l0, w0⟩ := open_bytes (hval 0 22 v0 rfl rfl) h0
  refine (walk_FnSplitJoin v0 l0 w0).mono fun e W' ⟨he, hg⟩ => ?_
  subst he
  exact ⟨_, rfl, law_post laidOut hW' rfl (by kernel_rfl) rfl Try.underlying4 rfl rfl rfl rfl hg⟩
theorem factA_FnSplitJoin : factsA Try.prog 6 Try.f6 Rows.fnSplitJoinSpec Rows.fnSplitJoinRow = true := by kernel_rfl
theorem fact9_FnSplitJoin : (Rows.fnSplitJoinRow.inPlace == Try.prog.inPlace 6) = true := by kernel_rfl
theorem fact10_FnSplitJoin : (Rows.fnSplitJoinRow.unfollowed == Try.prog.unfollowed 6) = true := by kernel_rfl
theorem fact11_FnSplitJoin : (Rows.fnSplitJoinRow.recurses == Try.prog.recurses 6) = true := by kernel_rfl
theorem fact12_FnSplitJoin : (Rows.fnSplitJoinRow.named == Try.prog.varsNamed 6) = true := by kernel_rfl
theorem factB_FnSplitJoin : factsB Try.prog 6 Try.f6 Rows.fnSplitJoinSpec Rows.fnSplitJoinRow = true := by kernel_rfl
theorem factN_FnSplitJoin : Try.prog.funcNamed Rows.fnSplitJoinRow.func = some 6 := by kernel_rfl
theorem proved_FnSplitJoin : Rows.FnSplitJoinSaid :=
  OpenClaim.holds_of_wide 6 Try.f6 rfl rfl rfl rfl rfl rfl rfl ⟨rfl, rfl, rfl, rfl, rfl⟩ rfl rfl rfl rfl rfl factN_FnSplitJoin Try.func6 (closed_of factA_FnSplitJoin fact9_FnSplitJoin fact10_FnSplitJoin fact11_FnSplitJoin fact12_FnSplitJoin factB_FnSplitJoin rfl rfl rfl)
    (of_decide_eq_true (by kernel_rfl)) (by unfold Func.isWrapper; first | (rw [if_pos (by decide +kernel)]; kernel_rfl) | (rw [if_neg (by decide +kernel)]; exact ⟨rfl, rfl⟩))
    (fun os started H enc _ => lifted_FnSplitJoin os started H enc)
end Go.Proofs.Ytkfejnifbkgihaa
