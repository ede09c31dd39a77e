/- FnRoundBounds: a rounded number lies as near as the way of rounding says. No condition. -/
import Derived.Test.YtjlehpoicplmpaaRnd2
namespace Go.Proofs.Ytjlehpoicplmpaa
set_option linter.unusedVariables false
open Go.ChangeShapes Go.WideShapes Go.ChangeAt Go.RowKit

set_option maxHeartbeats 1000000 in
theorem walk_FnRoundBounds (v : Value) (cs : List Int) {w : World} (hw : RdL w v (cs.map (Value.int .u8)) ∧ cs.length ≤ 9223372036854775807 ∧ (∀ n ∈ cs, (Lit.int .u8 n).wf = true) ∧ CapOk v) :
    Calls Try.prog 9 #[v] w fun e w' => e = .returned (.bool true) ∧ Below w.heap.size w w' := by
  obtain ⟨hR, hlen, hwf, hcap⟩ := hw
  have hR0 := hR
  obtain ⟨a, cap, rfl, hR1⟩ := hR0
  clear hR1
  simp only [List.length_map] at hR hcap ⊢
  by_cases hbig : 1048576 < cs.length
  · clear hR hcap hwf
    go_enter Try.func9, Try.ntmps9
    go_wp2
    go_ret
    exact ⟨rfl, Below.refl _ _⟩
  · go_enter Try.func9, Try.ntmps9
    go_wp2_with fail
    refine (c_DrawRoundEntry _ cs w hR (by omega) hwf hcap).mono ?_
    rintro e w1 ⟨n, d, way, rfl, ⟨hd1, hd2⟩, hB⟩
    clear hR hwf hcap
    go_wp2_with fail
    refine (c_impl_RoundEntry _ _ _ _).mono ?_
    rintro e w' ⟨rfl, rfl⟩
    go_wp2_with fail
    refine (c_spec_RoundEntry _ _ _ _).mono ?_
    rintro e w' ⟨rfl, rfl⟩
    by_cases hv : rndB n d way = true
    · obtain ⟨hn, hm, h3, h4, hw0, hw2⟩ := rndB_iff.1 hv
      obtain ⟨k, rfl⟩ : ∃ k : Nat, d = k := ⟨d.toNat, by omega⟩
      have hk : k ≤ 6 := by omega
      have hk17 : k ≤ 17 := by omega
      obtain ⟨p, m, t, dd, HP, HM, hmp, hnt, p1, p2, m1, m2, t1, t2, hc⟩ := rnd_bounds (way := way) hn hm hk hw0 hw2
      have hr : rnd n k way = m := by
        unfold rnd; rw [if_pos hv]
        show rndF n (ten (k : Int).toNat) way = m
        rw [Int.toNat_natCast, HP.out, HM.out]
      rcases hc with ⟨h, h1, h2⟩ | ⟨h | h, h1, h2⟩ | ⟨h, h1, h2⟩ | ⟨h, h1, h2⟩ | ⟨h, h1, h2⟩ | ⟨h, h1, h2⟩
      all_goals
        subst h
        try have h2' : (m.tmod 2 == 0) = true := by rw [h2]; rfl
        try have h3' := beq_iff_eq.2 h2
        try have h4' := beq_iff_eq.2 h1
        go_wp2_with (go_at_call 42; refine (c_deTen k _ hk17).mono ?_; rw [HP.out]; rintro e w' ⟨rfl, rfl⟩)
        go_ret
        first
          | exact ⟨rfl, hB⟩
          | (refine ⟨ret_bool ?_, hB⟩; go_light; simp; omega)
    · have hv' : rndB n d way = false := by simpa using hv
      go_wp2_with fail
      go_ret
      exact ⟨by simp, hB⟩

set_option maxRecDepth 100000 in
theorem lifted_FnRoundBounds (os : Os) (started : os.Started) (H : Type) (enc : TypeId × Value → H) :
    ReturnsInHanded {} Try.checked os 9 .any (Rows.fnRoundBoundsSpec.pre6 enc Try.prog Try.f9 Rows.fnRoundBoundsRow.domain false) (Rows.fnRoundBoundsSpec.post enc Try.prog Try.f9 false true false false) := by
  refine returnsInHanded_of_change (C := Try.checked) own started (by kernel_rfl) Try.func9
    (ChangeSpec.witness6 (enc := enc) (C := Try.checked) false ⟨#[], #[.slice none 0 0], []⟩ 8 (by kernel_rfl) (by kernel_rfl) (by kernel_rfl) (by kernel_rfl)) ?_
  intro W base args ds gs before hval0 hW hcnd _
  have hval : ∀ (j : Nat) t v, Try.f9.params[j]? = some t → args[j]? = some v → Value.okWide Try.prog W .any base t v := hval0
  have hW' := hW
  obtain ⟨p, q, hA0, hV, rfl, hfz, hnd⟩ := hW
  have hA : DataW.TrodAll enc Try.prog W 0 (fun _ => true) true Try.f9.params.toList args.toList ds p := hA0
  rw [Try.params9] at hA hval
  obtain ⟨v0, vs0, d0, ds0, p0, q0, hargs, rfl, rfl, h0, r0⟩ := trodAll_cons hA
  obtain ⟨rfl, rfl, rfl⟩ := trodAll_nil r0
  obtain rfl : args = #[v0] := by cases args; simp_all
  obtain ⟨rfl, rfl⟩ := trodVars_none hV
  obtain ⟨l0, w0⟩ := open_bytes (hval 0 39 v0 rfl rfl) h0
  refine (walk_FnRoundBounds v0 l0 w0).mono fun e W' ⟨he, hg⟩ => ?_
  subst he
  exact ⟨_, rfl, law_post laidOut hW' rfl (by kernel_rfl) rfl Try.underlying4 rfl rfl rfl rfl hg⟩
theorem factA_FnRoundBounds : factsA Try.prog 9 Try.f9 Rows.fnRoundBoundsSpec Rows.fnRoundBoundsRow = true := by kernel_rfl
theorem fact9_FnRoundBounds : (Rows.fnRoundBoundsRow.inPlace == Try.prog.inPlace 9) = true := by kernel_rfl
theorem fact10_FnRoundBounds : (Rows.fnRoundBoundsRow.unfollowed == Try.prog.unfollowed 9) = true := by kernel_rfl
theorem fact11_FnRoundBounds : (Rows.fnRoundBoundsRow.recurses == Try.prog.recurses 9) = true := by kernel_rfl
theorem fact12_FnRoundBounds : (Rows.fnRoundBoundsRow.named == Try.prog.varsNamed 9) = true := by kernel_rfl
theorem factB_FnRoundBounds : factsB Try.prog 9 Try.f9 Rows.fnRoundBoundsSpec Rows.fnRoundBoundsRow = true := by kernel_rfl
theorem factN_FnRoundBounds : Try.prog.funcNamed Rows.fnRoundBoundsRow.func = some 9 := by kernel_rfl
theorem proved_FnRoundBounds : Rows.FnRoundBoundsSaid :=
  OpenClaim.holds_of_wide 9 Try.f9 rfl rfl rfl rfl rfl rfl rfl ⟨rfl, rfl, rfl, rfl, rfl⟩ rfl rfl rfl rfl rfl factN_FnRoundBounds Try.func9 (closed_of factA_FnRoundBounds fact9_FnRoundBounds fact10_FnRoundBounds fact11_FnRoundBounds fact12_FnRoundBounds factB_FnRoundBounds rfl rfl rfl)
    (of_decide_eq_true (by kernel_rfl)) (by unfold Func.isWrapper; first | (rw [if_pos (by decide +kernel)]; kernel_rfl) | (rw [if_neg (by decide +kernel)]; exact ⟨rfl, rfl⟩))
    (fun os started H enc _ => lifted_FnRoundBounds os started H enc)
end Go.Proofs.Ytjlehpoicplmpaa
