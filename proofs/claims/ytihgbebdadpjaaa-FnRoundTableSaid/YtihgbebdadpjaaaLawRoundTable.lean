/- FnRoundTable: the error of a rounded table is the greatest one of its entries, and less than a unit, or at most half a unit if it is rounded to the nearest. No condition. -/
import Derived.Test.YtihgbebdadpjaaaBad
import Derived.Test.YtihgbebdadpjaaaErrP
import Derived.Test.YtihgbebdadpjaaaDeI
namespace Go.Proofs.Ytihgbebdadpjaaa
set_option linter.unusedVariables false
open Go.ChangeShapes Go.WideShapes Go.ChangeAt Go.RowKit

theorem OwnI_form {w : World} {base : Nat} {v : Value} {xs : List Int} (h : OwnI w base v xs) : ∃ a c, v = .slice a xs.length c := by
  obtain ⟨a, cap, rfl, _⟩ := owns_RdI h
  exact ⟨a, cap, by rw [List.length_map]⟩
set_option maxHeartbeats 4000000 in
set_option maxRecDepth 100000 in
theorem walk_FnRoundTable (v : Value) (cs : List Int) {w : World} (hw : RdL w v (cs.map (Value.int .u8)) ∧ cs.length ≤ 9223372036854775807 ∧ (∀ n ∈ cs, (Lit.int .u8 n).wf = true) ∧ CapOk v) :
    Calls Try.prog 5 #[v] w fun e w' => e = .returned (.bool true) ∧ Below w.heap.size w w' := by
  obtain ⟨hR, hlen, hwf, hcap⟩ := hw
  have hR0 := hR
  obtain ⟨a, cap, rfl, hR1⟩ := hR0
  clear hR1
  simp only [List.length_map] at hR hcap ⊢
  by_cases hbig : 1048576 < cs.length
  · clear hR hcap hwf
    go_enter Try.func5, Try.ntmps5
    go_wp2
    go_ret
    exact ⟨rfl, Below.refl _ _⟩
  · go_enter Try.func5, Try.ntmps5
    go_wp2_with fail
    refine (c_DrawRoundTable _ cs w hR (by omega) hwf hcap).mono ?_
    rintro e w1 ⟨vv, xs, d, way, rfl, o_v, hx61, ⟨hd1, hd2⟩, ⟨hw1, hw2⟩, hB⟩
    have hA : Below w.heap.size w w1 := (by first | exact hB | exact balloc hB)
    have hs1 := hB.size
    (try simp at hs1)
    clear hB
    have lt_v := fun k hk => (o_v.lt k hk).2
    clear hR hwf hcap
    go_wp2_with fail
    refine (c_impl_RoundTable _ xs d way _ (owns_RdI o_v) (by omega)).mono ?_
    rintro e w2 ⟨vl, rfl, o_l, hB⟩
    replace o_v := ownsRow_kept_below o_v hB
    replace hA := bthen hA hB
    have hs2 := hB.size
    clear hB
    have lt_l := fun k hk => (o_l.lt k hk).2
    go_wp2_with fail
    refine (c_spec_RoundTable _ xs d way _ (owns_RdI o_v) (by omega)).mono ?_
    rintro e w3 ⟨vs, rfl, o_s, hB⟩
    replace o_v := ownsRow_kept_below o_v hB
    replace o_l := ownsRow_kept_below o_l hB
    replace hA := bthen hA hB
    have hs3 := hB.size
    clear hB
    have lt_s := fun k hk => (o_s.lt k hk).2
    go_wp2_with fail
    refine (c_impl_RoundError _ xs d way _ (owns_RdI o_v) (by omega)).mono ?_
    rintro e w4 ⟨rfl, hB⟩
    replace o_v := ownsRow_kept_below o_v hB
    replace o_l := ownsRow_kept_below o_l hB
    replace o_s := ownsRow_kept_below o_s hB
    replace hA := bthen hA hB
    have hs4 := hB.size
    clear hB
    have hrl := rtL_len xs d way
    have hvf := OwnI_form o_v
    obtain ⟨av, cv, rfl⟩ := hvf
    have hlf := OwnI_form o_l
    obtain ⟨al, cl, rfl⟩ := hlf
    cases hv : rtB xs d way
    · have hll : (rtL xs d way).length = 0 := by unfold rtL; rw [hv]; rfl
      have HLL : Hid _ := hll
      clear hll
      go_wp2_with fail
      refine (k_de_ints _ _ _ _ (rtL xs d way) _ o_l o_s (by omega)).mono ?_
      rintro e w5 ⟨rfl, hB⟩
      replace o_v := ownsRow_kept_below o_v hB
      replace o_l := ownsRow_kept_below o_l hB
      replace o_s := ownsRow_kept_below o_s hB
      replace hA := bthen hA hB
      have hs5 := hB.size
      clear hB
      go_wp2_with fail
      refine (c_spec_RoundError _ xs d way _ (owns_RdI o_v) (by omega)).mono ?_
      rintro e w6 ⟨rfl, hB⟩
      replace o_v := ownsRow_kept_below o_v hB
      replace o_l := ownsRow_kept_below o_l hB
      replace o_s := ownsRow_kept_below o_s hB
      replace hA := bthen hA hB
      have hs6 := hB.size
      clear hB
      go_wp2_with fail
      refine (k_de_ints _ _ _ _ (rtL xs d way) _ o_l o_s (by omega)).mono ?_
      rintro e w7 ⟨rfl, hB⟩
      replace o_v := ownsRow_kept_below o_v hB
      replace o_l := ownsRow_kept_below o_l hB
      replace o_s := ownsRow_kept_below o_s hB
      replace hA := bthen hA hB
      have hs7 := hB.size
      clear hB
      go_wp2_with fail
      refine (c_spec_RoundError _ xs d way _ (owns_RdI o_v) (by omega)).mono ?_
      rintro e w8 ⟨rfl, hB⟩
      replace o_v := ownsRow_kept_below o_v hB
      replace o_l := ownsRow_kept_below o_l hB
      replace o_s := ownsRow_kept_below o_s hB
      replace hA := bthen hA hB
      have hs8 := hB.size
      clear hB
      go_wp2
      go_ret
      exact ⟨rfl, hA⟩
    · have E : Hid (rtL xs d way = xs.map (fun n => rnd n d way)) := if_pos hv
      obtain ⟨q1, q2⟩ := rtB_iff hv
      obtain ⟨q3, q4, q5⟩ := tabB_iff q1
      obtain ⟨d0, d6, w0, w2'⟩ := wayB_iff q2
      have hll : (rtL xs d way).length = xs.length := by rw [E.out, List.length_map]
      have HLL : Hid _ := hll
      have HV : Hid (rtB xs d way = true) := hv
      clear hll q1 q2
      go_wp2_with fail
      refine (k_de_ints _ _ _ _ (rtL xs d way) _ o_l o_s (by omega)).mono ?_
      rintro e w5 ⟨rfl, hB⟩
      replace o_v := ownsRow_kept_below o_v hB
      replace o_l := ownsRow_kept_below o_l hB
      replace o_s := ownsRow_kept_below o_s hB
      replace hA := bthen hA hB
      have hs5 := hB.size
      clear hB
      go_wp2_with fail
      refine (c_spec_RoundError _ xs d way _ (owns_RdI o_v) (by omega)).mono ?_
      rintro e w6 ⟨rfl, hB⟩
      replace o_v := ownsRow_kept_below o_v hB
      replace o_l := ownsRow_kept_below o_l hB
      replace o_s := ownsRow_kept_below o_s hB
      replace hA := bthen hA hB
      have hs6 := hB.size
      clear hB
      obtain ⟨n, rfl⟩ : ∃ n : Nat, d = n := ⟨d.toNat, by omega⟩
      have hn6 : n ≤ 6 := by omega
      have hn17 : n ≤ 17 := by omega
      have hN0 : errR xs n way = errS xs (ten n) way xs.length := by unfold errR; rw [if_pos HV.out, Int.toNat_natCast]
      obtain ⟨N, hN⟩ : ∃ N, errR xs n way = N := ⟨_, rfl⟩
      obtain ⟨p, hp⟩ : ∃ p, ten n = p := ⟨_, rfl⟩
      obtain ⟨hp1, hp6⟩ := ten6 hn6
      obtain ⟨sm1, sm2⟩ := err_small q5 hn6 w0 w2'
      obtain ⟨bd1, bd2⟩ := errS_bd (way := way) q5 (Nat.le_refl _) hn6 w0 w2'
      rw [hN] at hN0
      rw [← hN0] at sm1 sm2 bd1 bd2
      rw [hp] at hp1 hp6 sm1 sm2
      have HP : Hid (ten n = p) := hp
      have HN : Hid (N = errS xs p way xs.length) := by rw [hp] at hN0; exact hN0
      rw [hN]
      clear hp hN hN0
      go_wp2_with (go_at_call 23; refine (c_deTen n _ hn17).mono ?_; rw [HP.out]; rintro e w' ⟨rfl, rfl⟩)
      have hvr : RdI w6 _ xs := owns_RdI o_v
      have hlr : RdI w6 _ (rtL xs n way) := owns_RdI o_l
      clear o_v o_l o_s lt_v lt_l lt_s hv
      go_loop [12, 13] (fun sm i => ∃ k : Nat, k ≤ xs.length ∧ i = .int .i64 k ∧ sm = .bool (someB xs p way N k)) (fun _ i => xs.length - (intOf i).toNat)
      case atStart => exact ⟨0, by omega, rfl, rfl⟩
      case round =>
        obtain ⟨k, hk, rfl, rfl⟩ := hrel
        by_cases hlt : k < xs.length
        · have hlt2 : k < (rtL xs n way).length := by rw [HLL.out]; exact hlt
          obtain ⟨b1, o1, rfl, hb1, e1⟩ := RdI_cell hvr (Below.refl _ _) hlt
          obtain ⟨b2, o2, rfl, hb2, e2⟩ := RdI_cell hlr (Below.refl _ _) hlt2
          obtain ⟨r1, r2, r3, r4⟩ := rnd_entry HV.out hlt
          obtain ⟨t, dd, ht, t1, t2, hd, _, _⟩ := err_entry (way := way) q5 hlt hn6 w0 w2'
          have hge := errS_ge xs p way hlt
          have hsb : someB xs p way N (k + 1) = (someB xs p way N k || errD xs p way k == N || errD xs p way k == -N) := rfl
          have hL : (rtL xs n way).getD k 0 = rnd (xs.getD k 0) n way := by
            rw [E.out]; simp [List.getD, hlt]
          have hee : errD xs p way k = t - xs.getD k 0 := by
            have hpp := HP.out
            unfold errD; rw [← hpp, ht]
          rw [← HN.out] at hge
          rw [Int.toNat_natCast] at r4
          rw [HP.out] at r4 ht
          rw [hL] at e2
          obtain ⟨y, hy⟩ : ∃ y, xs.getD k 0 = y := ⟨_, rfl⟩
          rw [hy] at e1 e2 r1 r2 r3 r4 ht hd hee
          obtain ⟨m, hm⟩ : ∃ m, rnd y n way = m := ⟨_, rfl⟩
          have hc := c_impl_RoundEntry y n way w6
          rw [hm, r3] at hc
          rw [hm] at e2 r4
          rw [← r4] at ht
          rw [hee] at hge hsb
          obtain ⟨e, he⟩ : ∃ e, t - y = e := ⟨_, rfl⟩
          rw [he] at hge hsb
          obtain ⟨ge1, ge2⟩ := hge
          have HSB : Hid _ := hsb
          have i1 : (0 : Int) ≤ (k : Int) := by omega
          have i2 : (k : Int) < (xs.length : Int) := by omega
          have i3 : (k : Int) < ((rtL xs n way).length : Int) := by omega
          have u1 : -1000000000 ≤ m * p ∨ True := .inr trivial
          clear hy hL hm r3 r4 hee hsb hd hvr hlr E HV u1
          cases hs : someB xs p way N k
          · by_cases ee1 : e = N
            · have HE : Hid (someB xs p way N (k + 1) = true) := by show _ = _; rw [HSB.out, hs, beq_iff_eq.2 ee1]; rfl
              have be1 : (e == N) = true := beq_iff_eq.2 ee1
              clear hs ee1
              go_wp2_with (go_at_call 24; refine hc.mono ?_; rintro e w' ⟨rfl, hw⟩; subst hw)
              go_round
              case rel => exact ⟨k + 1, by omega, by go_num, by rw [HE.out]⟩
              case measure => simp [intOf]; omega
            · have be1 : (e == N) = false := beq_eq_false_iff_ne.2 ee1
              cases ee2 : (e == -N)
              · have HE : Hid (someB xs p way N (k + 1) = false) := by show _ = _; rw [HSB.out, hs, be1, ee2]; rfl
                clear hs ee1
                go_wp2_with (go_at_call 24; refine hc.mono ?_; rintro e w' ⟨rfl, hw⟩; subst hw)
                go_round
                case rel => exact ⟨k + 1, by omega, by go_num, by rw [HE.out]⟩
                case measure => simp [intOf]; omega
              · have HE : Hid (someB xs p way N (k + 1) = true) := by show _ = _; rw [HSB.out, hs, be1, ee2]; rfl
                clear hs ee1
                go_wp2_with (go_at_call 24; refine hc.mono ?_; rintro e w' ⟨rfl, hw⟩; subst hw)
                go_round
                case rel => exact ⟨k + 1, by omega, by go_num, by rw [HE.out]⟩
                case measure => simp [intOf]; omega
          · have HE : Hid (someB xs p way N (k + 1) = true) := by show _ = _; rw [HSB.out, hs]; rfl
            clear hs
            go_wp2_with (go_at_call 24; refine hc.mono ?_; rintro e w' ⟨rfl, hw⟩; subst hw)
            go_round
            case rel => exact ⟨k + 1, by omega, by go_num, by rw [HE.out]⟩
            case measure => simp [intOf]; omega
        · have hsA : someB xs p way N k = true := by
            rw [show k = xs.length by omega, HN.out]
            exact someB_all xs p way xs.length
          rw [hsA]
          have l1 : (((rtL xs n way).length : Int) == (xs.length : Int)) = true := beq_iff_eq.2 (by rw [HLL.out])
          clear hsA hvr hlr
          by_cases hw0 : way = 0
          · have bw : (way == 0) = true := beq_iff_eq.2 hw0
            clear hw0 sm2
            go_wp2
            go_ret
            exact ⟨rfl, hA⟩
          · have bw : (way == 0) = false := beq_eq_false_iff_ne.2 hw0
            have sm3 : 2 * N ≤ p := by omega
            clear hw0 sm2
            go_wp2
            go_ret
            exact ⟨rfl, hA⟩

set_option maxRecDepth 100000 in
theorem lifted_FnRoundTable (os : Os) (started : os.Started) (H : Type) (enc : TypeId × Value → H) :
    ReturnsInHanded {} Try.checked os 5 .any (Rows.fnRoundTableSpec.pre6 enc Try.prog Try.f5 Rows.fnRoundTableRow.domain false) (Rows.fnRoundTableSpec.post enc Try.prog Try.f5 false true false false) := by
  refine returnsInHanded_of_change (C := Try.checked) own started (by kernel_rfl) Try.func5
    (ChangeSpec.witness6 (enc := enc) (C := Try.checked) false ⟨#[], #[.slice none 0 0], []⟩ 8 (by kernel_rfl) (by kernel_rfl) (by kernel_rfl) (by kernel_rfl)) ?_
  intro W base args ds gs before hval0 hW hcnd _
  have hval : ∀ (j : Nat) t v, Try.f5.params[j]? = some t → args[j]? = some v → Value.okWide Try.prog W .any base t v := hval0
  have hW' := hW
  obtain ⟨p, q, hA0, hV, rfl, hfz, hnd⟩ := hW
  have hA : DataW.TrodAll enc Try.prog W 0 (fun _ => true) true Try.f5.params.toList args.toList ds p := hA0
  rw [Try.params5] at hA hval
  obtain ⟨v0, vs0, d0, ds0, p0, q0, hargs, rfl, rfl, h0, r0⟩ := trodAll_cons hA
  obtain ⟨rfl, rfl, rfl⟩ := trodAll_nil r0
  obtain rfl : args = #[v0] := by cases args; simp_all
  obtain ⟨rfl, rfl⟩ := trodVars_none hV
  obtain ⟨l0, w0⟩ := open_bytes (hval 0 27 v0 rfl rfl) h0
  refine (walk_FnRoundTable v0 l0 w0).mono fun e W' ⟨he, hg⟩ => ?_
  subst he
  exact ⟨_, rfl, law_post laidOut hW' rfl (by kernel_rfl) rfl Try.underlying4 rfl rfl rfl rfl hg⟩
theorem factA_FnRoundTable : factsA Try.prog 5 Try.f5 Rows.fnRoundTableSpec Rows.fnRoundTableRow = true := by kernel_rfl
theorem fact9_FnRoundTable : (Rows.fnRoundTableRow.inPlace == Try.prog.inPlace 5) = true := by kernel_rfl
theorem fact10_FnRoundTable : (Rows.fnRoundTableRow.unfollowed == Try.prog.unfollowed 5) = true := by kernel_rfl
theorem fact11_FnRoundTable : (Rows.fnRoundTableRow.recurses == Try.prog.recurses 5) = true := by kernel_rfl
theorem fact12_FnRoundTable : (Rows.fnRoundTableRow.named == Try.prog.varsNamed 5) = true := by kernel_rfl
theorem factB_FnRoundTable : factsB Try.prog 5 Try.f5 Rows.fnRoundTableSpec Rows.fnRoundTableRow = true := by kernel_rfl
theorem factN_FnRoundTable : Try.prog.funcNamed Rows.fnRoundTableRow.func = some 5 := by kernel_rfl
theorem proved_FnRoundTable : Rows.FnRoundTableSaid :=
  OpenClaim.holds_of_wide 5 Try.f5 rfl rfl rfl rfl rfl rfl rfl ⟨rfl, rfl, rfl, rfl, rfl⟩ rfl rfl rfl rfl rfl factN_FnRoundTable Try.func5 (closed_of factA_FnRoundTable fact9_FnRoundTable fact10_FnRoundTable fact11_FnRoundTable fact12_FnRoundTable factB_FnRoundTable rfl rfl rfl)
    (of_decide_eq_true (by kernel_rfl)) (by unfold Func.isWrapper; first | (rw [if_pos (by decide +kernel)]; kernel_rfl) | (rw [if_neg (by decide +kernel)]; exact ⟨rfl, rfl⟩))
    (fun os started H enc _ => lifted_FnRoundTable os started H enc)
end Go.Proofs.Ytihgbebdadpjaaa
