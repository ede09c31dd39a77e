/- FnRoundOpposite: the opposite number is rounded to the opposite result. No condition. -/
import Derived.Test.YtjlehpoicplmpaaRnd3
namespace Go.Proofs.Ytjlehpoicplmpaa
set_option linter.unusedVariables false
open Go.ChangeShapes Go.WideShapes Go.ChangeAt Go.RowKit

set_option maxHeartbeats 1000000 in
theorem walk_FnRoundOpposite (v : Value) (cs : List Int) {w : World} (hw : RdL w v (cs.map (Value.int .u8)) ∧ cs.length ≤ 9223372036854775807 ∧ (∀ n ∈ cs, (Lit.int .u8 n).wf = true) ∧ CapOk v) :
    Calls Try.prog 10 #[v] w fun e w' => e = .returned (.bool true) ∧ Below w.heap.size w w' := by
  obtain ⟨hR, hlen, hwf, hcap⟩ := hw
  have hR0 := hR
  obtain ⟨a, cap, rfl, hR1⟩ := hR0
  clear hR1
  simp only [List.length_map] at hR hcap ⊢
  by_cases hbig : 1048576 < cs.length
  · clear hR hcap hwf
    go_enter Try.func10, Try.ntmps10
    go_wp2
    go_ret
    exact ⟨rfl, Below.refl _ _⟩
  · go_enter Try.func10, Try.ntmps10
    go_wp2_with fail
    refine (c_DrawRoundEntry _ cs w hR (by omega) hwf hcap).mono ?_
    rintro e w1 ⟨n, d, way, rfl, ⟨hd1, hd2⟩, hB⟩
    clear hR hwf hcap
    go_wp2_with fail
    refine (c_impl_RoundEntry _ _ _ _).mono ?_
    rintro e w' ⟨rfl, rfl⟩
    go_wp2_with fail
    refine (c_spec_RoundEntry _ _ _ _).mono ?_
    rintro e w' ⟨rfl, rfl⟩
    by_cases hv : rndB n d way = true
    · obtain ⟨hn, hm, h3, h4, hw0, hw2⟩ := rndB_iff.1 hv
      obtain ⟨k, rfl⟩ : ∃ k : Nat, d = k := ⟨d.toNat, by omega⟩
      have hk : k ≤ 6 := by omega
      have hk17 : k ≤ 17 := by omega
      obtain ⟨hp1, hp6⟩ := ten6 hk
      have hr : rnd n k way = rndF n (ten k) way := by
        unfold rnd; rw [if_pos hv]
        show rndF n (ten (k : Int).toNat) way = _
        rw [Int.toNat_natCast]
      have hv2 : rndB (-n) k way = true := rndB_iff.2 ⟨by omega, by omega, by omega, by omega, by omega, by omega⟩
      have hr2 : rnd (-n) k way = rndF (-n) (ten k) way := by
        unfold rnd; rw [if_pos hv2]
        show rndF (-n) (ten (k : Int).toNat) way = _
        rw [Int.toNat_natCast]
      obtain ⟨p, m, t, dd, HP, HM, _, _, _, _, m1, m2, _, _, _⟩ := rnd_bounds (way := way) hn hm hk hw0 hw2
      rw [HP.out] at hp1 hp6 hr hr2
      have HM := HM.out
      obtain ⟨k1, k2⟩ := rnd_neg (way := way) hp1 hp6 hn hm hw0 hw2
      have htm := tmod_cases n p hp1
      have hcase : ∃ up : Int, (n % p = 0 ∧ (n.tmod p != 0) = false ∧ up = 0 ∨ n % p ≠ 0 ∧ (n.tmod p != 0) = true ∧ up = 1) ∧ ((way = 0 ∧ rndF (-n) p way = -m - up) ∨ ((way = 1 ∨ way = 2) ∧ rndF (-n) p way = -m)) := by
        by_cases hx : n % p = 0
        · refine ⟨0, .inl ⟨hx, by rw [bne_eq_false_iff_eq]; omega, rfl⟩, ?_⟩
          have := k1 hx
          rw [HM] at this
          by_cases h0 : way = 0
          · exact .inl ⟨h0, by omega⟩
          · exact .inr ⟨by omega, this⟩
        · refine ⟨1, .inr ⟨hx, by rw [bne_iff_ne]; have := Int.emod_nonneg n (b := p) (by omega); omega, rfl⟩, ?_⟩
          have := k2 hx
          rw [HM] at this
          by_cases h0 : way = 0
          · rw [if_pos h0] at this; exact .inl ⟨h0, by omega⟩
          · rw [if_neg h0] at this; exact .inr ⟨by omega, this⟩
      rw [HM] at hr
      clear k1 k2 HM htm
      obtain ⟨up, hup, hway⟩ := hcase
      have hr0 : (p = 0) = False := eq_false (by omega)
      rcases hup with ⟨_, hu, rfl⟩ | ⟨_, hu, rfl⟩
      all_goals
        rcases hway with ⟨rfl, hq⟩ | ⟨rfl | rfl, hq⟩
        all_goals
          rw [hq] at hr2
          clear hq
          go_wp2_with (first | (go_at_call 33; refine (c_impl_RoundEntry _ _ _ _).mono ?_; rintro e w' ⟨rfl, rfl⟩) | (go_at_call 42; refine (c_deTen k _ hk17).mono ?_; rw [HP.out]; rintro e w' ⟨rfl, rfl⟩))
          go_ret
          first
            | exact ⟨rfl, hB⟩
            | (refine ⟨ret_bool ?_, hB⟩; go_light; simp; omega)
    · have hv' : rndB n d way = false := by simpa using hv
      go_wp2_with fail
      go_ret
      exact ⟨by simp, hB⟩

set_option maxRecDepth 100000 in
theorem lifted_FnRoundOpposite (os : Os) (started : os.Started) (H : Type) (enc : TypeId × Value → H) :
    ReturnsInHanded {} Try.checked os 10 .any (Rows.fnRoundOppositeSpec.pre6 enc Try.prog Try.f10 Rows.fnRoundOppositeRow.domain false) (Rows.fnRoundOppositeSpec.post enc Try.prog Try.f10 false true false false) := by
  refine returnsInHanded_of_change (C := Try.checked) own started (by kernel_rfl) Try.func10
    (ChangeSpec.witness6 (enc := enc) (C := Try.checked) false ⟨#[], #[.slice none 0 0], []⟩ 8 (by kernel_rfl) (by kernel_rfl) (by kernel_rfl) (by kernel_rfl)) ?_
  intro W base args ds gs before hval0 hW hcnd _
  have hval : ∀ (j : Nat) t v, Try.f10.params[j]? = some t → args[j]? = some v → Value.okWide Try.prog W .any base t v := hval0
  have hW' := hW
  obtain ⟨p, q, hA0, hV, rfl, hfz, hnd⟩ := hW
  have hA : DataW.TrodAll enc Try.prog W 0 (fun _ => true) true Try.f10.params.toList args.toList ds p := hA0
  rw [Try.params10] at hA hval
  obtain ⟨v0, vs0, d0, ds0, p0, q0, hargs, rfl, rfl, h0, r0⟩ := trodAll_cons hA
  obtain ⟨rfl, rfl, rfl⟩ := trodAll_nil r0
  obtain rfl : args = #[v0] := by cases args; simp_all
  obtain ⟨rfl, rfl⟩ := trodVars_none hV
  obtain ⟨l0, w0⟩ := open_bytes (hval 0 39 v0 rfl rfl) h0
  refine (walk_FnRoundOpposite v0 l0 w0).mono fun e W' ⟨he, hg⟩ => ?_
  subst he
  exact ⟨_, rfl, law_post laidOut hW' rfl (by kernel_rfl) rfl Try.underlying4 rfl rfl rfl rfl hg⟩
theorem factA_FnRoundOpposite : factsA Try.prog 10 Try.f10 Rows.fnRoundOppositeSpec Rows.fnRoundOppositeRow = true := by kernel_rfl
theorem fact9_FnRoundOpposite : (Rows.fnRoundOppositeRow.inPlace == Try.prog.inPlace 10) = true := by kernel_rfl
theorem fact10_FnRoundOpposite : (Rows.fnRoundOppositeRow.unfollowed == Try.prog.unfollowed 10) = true := by kernel_rfl
theorem fact11_FnRoundOpposite : (Rows.fnRoundOppositeRow.recurses == Try.prog.recurses 10) = true := by kernel_rfl
theorem fact12_FnRoundOpposite : (Rows.fnRoundOppositeRow.named == Try.prog.varsNamed 10) = true := by kernel_rfl
theorem factB_FnRoundOpposite : factsB Try.prog 10 Try.f10 Rows.fnRoundOppositeSpec Rows.fnRoundOppositeRow = true := by kernel_rfl
theorem factN_FnRoundOpposite : Try.prog.funcNamed Rows.fnRoundOppositeRow.func = some 10 := by kernel_rfl
theorem proved_FnRoundOpposite : Rows.FnRoundOppositeSaid :=
  OpenClaim.holds_of_wide 10 Try.f10 rfl rfl rfl rfl rfl rfl rfl ⟨rfl, rfl, rfl, rfl, rfl⟩ rfl rfl rfl rfl rfl factN_FnRoundOpposite Try.func10 (closed_of factA_FnRoundOpposite fact9_FnRoundOpposite fact10_FnRoundOpposite fact11_FnRoundOpposite fact12_FnRoundOpposite factB_FnRoundOpposite rfl rfl rfl)
    (of_decide_eq_true (by kernel_rfl)) (by unfold Func.isWrapper; first | (rw [if_pos (by decide +kernel)]; kernel_rfl) | (rw [if_neg (by decide +kernel)]; exact ⟨rfl, rfl⟩))
    (fun os started H enc _ => lifted_FnRoundOpposite os started H enc)
end Go.Proofs.Ytjlehpoicplmpaa
