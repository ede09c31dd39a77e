/- FnRoundOrder: a greater number is not rounded to a smaller one, and a multiple of the unit is rounded to itself. No condition. -/
import Derived.Test.YtjlehpoicplmpaaRnd3
namespace Go.Proofs.Ytjlehpoicplmpaa
set_option linter.unusedVariables false
open Go.ChangeShapes Go.WideShapes Go.ChangeAt Go.RowKit

set_option maxHeartbeats 1000000 in
theorem walk_FnRoundOrder (v : Value) (cs : List Int) {w : World} (hw : RdL w v (cs.map (Value.int .u8)) ∧ cs.length ≤ 9223372036854775807 ∧ (∀ n ∈ cs, (Lit.int .u8 n).wf = true) ∧ CapOk v)
    (v' : Value) (cs' : List Int) (hw' : RdL w v' (cs'.map (Value.int .u8)) ∧ cs'.length ≤ 9223372036854775807 ∧ (∀ n ∈ cs', (Lit.int .u8 n).wf = true) ∧ CapOk v') :
    Calls Try.prog 11 #[v, v'] w fun e w' => e = .returned (.bool true) ∧ Below w.heap.size w w' := by
  obtain ⟨hR, hlen, hwf, hcap⟩ := hw
  obtain ⟨hR', hlen', _, _⟩ := hw'
  have hR0 := hR
  obtain ⟨a, cap, rfl, hR1⟩ := hR0
  clear hR1
  obtain ⟨a', cap', rfl, hR1⟩ := hR'
  clear hR1
  simp only [List.length_map] at hR hcap ⊢
  by_cases hbig : 1048576 < cs.length
  · clear hR hcap hwf
    go_enter Try.func11, Try.ntmps11
    go_wp2
    go_ret
    exact ⟨rfl, Below.refl _ _⟩
  by_cases hbig2 : 1048576 < cs'.length
  · clear hR hcap hwf
    go_enter Try.func11, Try.ntmps11
    go_wp2
    go_ret
    exact ⟨rfl, Below.refl _ _⟩
  · obtain ⟨j, hj0, hj1, hj⟩ : ∃ j : Int, 0 ≤ j ∧ j < 400 ∧ Hid ((cs'.length : Int) % 400 = j) := ⟨_, Int.emod_nonneg _ (by omega), Int.emod_lt_of_pos _ (by omega), rfl⟩
    have hj2 := hj.out
    go_enter Try.func11, Try.ntmps11
    go_wp2_with fail
    refine (c_DrawRoundEntry _ cs w hR (by omega) hwf hcap).mono ?_
    rintro e w1 ⟨n, d, way, rfl, ⟨hd1, hd2⟩, hB⟩
    clear hR hwf hcap
    go_wp2_with fail
    refine (c_impl_RoundEntry _ _ _ _).mono ?_
    rintro e w' ⟨rfl, rfl⟩
    go_wp2_with fail
    refine (c_spec_RoundEntry _ _ _ _).mono ?_
    rintro e w' ⟨rfl, rfl⟩
    by_cases hv : rndB n d way = true
    · obtain ⟨hn, hm, h3, h4, hw0, hw2⟩ := rndB_iff.1 hv
      obtain ⟨k, rfl⟩ : ∃ k : Nat, d = k := ⟨d.toNat, by omega⟩
      have hk : k ≤ 6 := by omega
      have hk17 : k ≤ 17 := by omega
      obtain ⟨hp1, hp6⟩ := ten6 hk
      have hr : rnd n k way = rndF n (ten k) way := by
        unfold rnd; rw [if_pos hv]
        show rndF n (ten (k : Int).toNat) way = _
        rw [Int.toNat_natCast]
      obtain ⟨N, hN, n1, n2⟩ : ∃ N : Int, n - n.tmod (ten k) = N ∧ -1000000000 ≤ N ∧ N ≤ 1000000000 := by
        refine ⟨_, rfl, ?_⟩
        obtain ⟨f1, f2, f3, f4, f5⟩ := div_facts (p := ten k) hp1 hn hm
        have hs : n.tmod (ten k) ≤ n ∧ 0 ≤ n.tmod (ten k) ∨ n ≤ n.tmod (ten k) ∧ n.tmod (ten k) ≤ 0 := by
          by_cases h0 : 0 ≤ n
          · left
            rw [Int.tmod_eq_emod_of_nonneg h0]
            refine ⟨?_, f1⟩
            have : 0 ≤ n / ten k := Int.ediv_nonneg h0 (by omega)
            have : 0 ≤ ten k * (n / ten k) := Int.mul_nonneg (by omega) this
            omega
          · right
            have h1 : n.tmod (ten k) = -((-n).tmod (ten k)) := by rw [Int.neg_tmod]; omega
            rw [Int.tmod_eq_emod_of_nonneg (by omega : 0 ≤ -n)] at h1
            obtain ⟨b1, b2, b3, b4, b5⟩ := div_facts (p := ten k) (n := -n) hp1 (by omega) (by omega)
            have : 0 ≤ (-n) / ten k := Int.ediv_nonneg (by omega) (by omega)
            have : 0 ≤ ten k * ((-n) / ten k) := Int.mul_nonneg (by omega) this
            omega
        omega
      have hv3 : rndB N k way = true := rndB_iff.2 ⟨n1, n2, by omega, by omega, by omega, by omega⟩
      have hr3 : rnd N k way = rndF N (ten k) way := by
        unfold rnd; rw [if_pos hv3]
        show rndF N (ten (k : Int).toNat) way = _
        rw [Int.toNat_natCast]
      have hmul : rndF N (ten k) way * ten k = N := by rw [← hN]; exact rnd_mult hp1
      obtain ⟨y, hy⟩ : ∃ y, rndF N (ten k) way = y := ⟨_, rfl⟩
      rw [hy] at hr3 hmul
      have hx : rndB (n + j) k way = false ∨ (rndB (n + j) k way = true ∧ decide (rnd n k way ≤ rnd (n + j) k way) = true) := by
        cases hb : rndB (n + j) k way
        · exact .inl rfl
        · refine .inr ⟨rfl, ?_⟩
          obtain ⟨_, q2, _, _, _, _⟩ := rndB_iff.1 hb
          have hr2 : rnd (n + j) k way = rndF (n + j) (ten k) way := by
            unfold rnd; rw [if_pos hb]
            show rndF (n + j) (ten (k : Int).toNat) way = _
            rw [Int.toNat_natCast]
          rw [hr, hr2]
          exact decide_eq_true (rnd_mono hp1 hp6 hn q2 hw0 hw2 (by omega))
      obtain ⟨m, hm1⟩ : ∃ m, rnd n k way = m := ⟨_, rfl⟩
      obtain ⟨x, hx1⟩ : ∃ x, rnd (n + j) k way = x := ⟨_, rfl⟩
      rw [hm1, hx1] at hx
      obtain ⟨p, hp⟩ : ∃ p, ten k = p := ⟨_, rfl⟩
      have HP : Hid (ten k = p) := hp
      rw [hp] at hN hmul hp1 hp6
      clear hp hr hy
      have hr0 : (p = 0) = False := eq_false (by omega)
      rcases hx with hx | ⟨hx, hx2⟩
      all_goals
        go_wp2_with (first | (go_at_call 33; refine (c_impl_RoundEntry _ _ _ _).mono ?_; rintro e w' ⟨rfl, rfl⟩) | (go_at_call 42; refine (c_deTen k _ hk17).mono ?_; rw [HP.out]; rintro e w' ⟨rfl, rfl⟩))
        go_ret
        first
          | exact ⟨rfl, hB⟩
          | (refine ⟨ret_bool ?_, hB⟩; go_light; simp; omega)
    · have hv' : rndB n d way = false := by simpa using hv
      have hp1 := ten_pos d.toNat
      obtain ⟨p, hp⟩ : ∃ p, ten d.toNat = p := ⟨_, rfl⟩
      have HP : Hid (ten d.toNat = p) := hp
      rw [hp] at hp1
      clear hp hv
      have hr0 : (p = 0) = False := eq_false (by omega)
      go_wp2_with (first | (go_at_call 33; refine (c_impl_RoundEntry _ _ _ _).mono ?_; rintro e w' ⟨rfl, rfl⟩) | (go_at_call 42; refine (c_deTen_any d _ hd1 hd2).mono ?_; rw [HP.out]; rintro e w' ⟨rfl, rfl⟩))
      go_ret
      exact ⟨by simp, hB⟩

set_option maxRecDepth 100000 in
theorem lifted_FnRoundOrder (os : Os) (started : os.Started) (H : Type) (enc : TypeId × Value → H) :
    ReturnsInHanded {} Try.checked os 11 .any (Rows.fnRoundOrderSpec.pre6 enc Try.prog Try.f11 Rows.fnRoundOrderRow.domain false) (Rows.fnRoundOrderSpec.post enc Try.prog Try.f11 false true false false) := by
  refine returnsInHanded_of_change (C := Try.checked) own started (by kernel_rfl) Try.func11
    (ChangeSpec.witness6 (enc := enc) (C := Try.checked) false ⟨#[], #[.slice none 0 0, .slice none 0 0], []⟩ 8 (by kernel_rfl) (by kernel_rfl) (by kernel_rfl) (by kernel_rfl)) ?_
  intro W base args ds gs before hval0 hW hcnd _
  have hval : ∀ (j : Nat) t v, Try.f11.params[j]? = some t → args[j]? = some v → Value.okWide Try.prog W .any base t v := hval0
  have hW' := hW
  obtain ⟨p, q, hA0, hV, rfl, hfz, hnd⟩ := hW
  have hA : DataW.TrodAll enc Try.prog W 0 (fun _ => true) true Try.f11.params.toList args.toList ds p := hA0
  rw [Try.params11] at hA hval
  obtain ⟨v0, vs0, d0, ds0, p0, q0, hargs, rfl, rfl, h0, r0⟩ := trodAll_cons hA
  obtain ⟨v1, vs1, d1, ds1, p1, q1, rfl, rfl, rfl, h1, r1⟩ := trodAll_cons r0
  obtain ⟨rfl, rfl, rfl⟩ := trodAll_nil r1
  obtain rfl : args = #[v0, v1] := by cases args; simp_all
  obtain ⟨rfl, rfl⟩ := trodVars_none hV
  obtain ⟨l0, w0⟩ := open_bytes (hval 0 39 v0 rfl rfl) h0
  obtain ⟨l1, w1⟩ := open_bytes (hval 1 39 v1 rfl rfl) h1
  refine (walk_FnRoundOrder v0 l0 w0 v1 l1 w1).mono fun e W' ⟨he, hg⟩ => ?_
  subst he
  exact ⟨_, rfl, law_post laidOut hW' rfl (by kernel_rfl) rfl Try.underlying4 rfl rfl rfl rfl hg⟩
theorem factA_FnRoundOrder : factsA Try.prog 11 Try.f11 Rows.fnRoundOrderSpec Rows.fnRoundOrderRow = true := by kernel_rfl
theorem fact9_FnRoundOrder : (Rows.fnRoundOrderRow.inPlace == Try.prog.inPlace 11) = true := by kernel_rfl
theorem fact10_FnRoundOrder : (Rows.fnRoundOrderRow.unfollowed == Try.prog.unfollowed 11) = true := by kernel_rfl
theorem fact11_FnRoundOrder : (Rows.fnRoundOrderRow.recurses == Try.prog.recurses 11) = true := by kernel_rfl
theorem fact12_FnRoundOrder : (Rows.fnRoundOrderRow.named == Try.prog.varsNamed 11) = true := by kernel_rfl
theorem factB_FnRoundOrder : factsB Try.prog 11 Try.f11 Rows.fnRoundOrderSpec Rows.fnRoundOrderRow = true := by kernel_rfl
theorem factN_FnRoundOrder : Try.prog.funcNamed Rows.fnRoundOrderRow.func = some 11 := by kernel_rfl
theorem proved_FnRoundOrder : Rows.FnRoundOrderSaid :=
  OpenClaim.holds_of_wide 11 Try.f11 rfl rfl rfl rfl rfl rfl rfl ⟨rfl, rfl, rfl, rfl, rfl⟩ rfl rfl rfl rfl rfl factN_FnRoundOrder Try.func11 (closed_of factA_FnRoundOrder fact9_FnRoundOrder fact10_FnRoundOrder fact11_FnRoundOrder fact12_FnRoundOrder factB_FnRoundOrder rfl rfl rfl)
    (of_decide_eq_true (by kernel_rfl)) (by unfold Func.isWrapper; first | (rw [if_pos (by decide +kernel)]; kernel_rfl) | (rw [if_neg (by decide +kernel)]; exact ⟨rfl, rfl⟩))
    (fun os started H enc _ => lifted_FnRoundOrder os started H enc)
end Go.Proofs.Ytjlehpoicplmpaa
