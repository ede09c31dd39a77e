/- FnExactJoinSegments: the program's JoinSegments returns what the reference's returns, keeps its arguments, and its plan is its own, for all arguments. No condition. -/
import Derived.Test.YtkfejnifbkgihaaSegO
import Derived.Test.YtkfejnifbkgihaaPlan11
namespace Go.Proofs.Ytkfejnifbkgihaa
set_option linter.unusedVariables false
open Go.ChangeShapes Go.WideShapes Go.ChangeAt Go.RowKit

theorem cntM_drop (pl : List Seg) (k : Nat) : cntM (pl.take k) + cntM (pl.drop k) = cntM pl := by
  rw [← cntM_append, List.take_append_drop]
theorem jnL_cnt (pl : List Seg) (i d : Int) : cntM (jnL pl i d) ≤ cntM pl + 8 := by
  unfold jnL
  split
  · rename_i hb
    have hr := (polyB_iff (runB_iff (jnB_iff hb).2.2.2.2).2.2.2).2.1
    unfold jnE
    rw [cntM_append, cntM_append]
    have h1 := cntM_drop pl (i.toNat + 2)
    have h2 : cntM (pl.take i.toNat) ≤ cntM (pl.take (i.toNat + 2)) := by
      have h := cntM_take (pl.take (i.toNat + 2)) i.toNat
      rw [List.take_take, Nat.min_eq_left (by omega)] at h
      exact h
    simp only [cntM]
    omega
  · simp [cntM]
set_option maxRecDepth 20000 in
set_option maxHeartbeats 1600000 in
theorem walk_FnExactJoinSegments (v : Value) (pl : List Seg) {w : World} (hw : RdP w v pl ∧ pl.length ≤ 9223372036854775807 ∧ ∀ s ∈ pl, s.2.length ≤ 9223372036854775807) (i : Int) (hi : (Lit.int .i64 i).wf = true) (d : Int) (hd : (Lit.int .i64 d).wf = true) :
    Calls Try.prog 4 #[v, (.int .i64 (i)), (.int .i64 (d))] w fun e w' => e = .returned (.bool true) ∧ Below w.heap.size w w' := by
  obtain ⟨hR0, hl0, hp0⟩ := hw
  have hi1 : i ≤ 9223372036854775807 ∧ -9223372036854775808 ≤ i := by
    have h := hi
    simp only [Lit.wf, Bool.and_eq_true, decide_eq_true_eq] at h
    exact ⟨h.2, h.1⟩
  obtain ⟨hi1, hi2⟩ := hi1
  have HR := hidd hR0
  have HSZ := hidd (c_szSegmentS v pl 1048576 w hR0 hl0 hp0 (by omega) (by omega))
  clear hR0 hl0 hp0 hi hd
  go_enter Try.func4, Try.ntmps4
  go_wp2_with fail
  refine HSZ.out.mono ?_
  rintro e w1 ⟨r, rfl, hr1, hcnt, hA⟩
  clear HSZ
  by_cases hr0 : r < 0
  · clear hcnt
    go_wp2
    go_ret
    exact ⟨rfl, hA⟩
  · have hM : cntM pl ≤ 1048576 := by have := hcnt (by omega); omega
    clear hcnt
    have hpl : pl.length ≤ 1048576 := Nat.le_trans (cntM_len pl) hM
    have hmem : ∀ s ∈ pl, s.2.length ≤ 1099511627776 := fun s hs => by have := cntM_mem pl s hs; omega
    have HT : Hid (∀ W, Below w.heap.size w W → Calls Try.prog 21 #[v] W (FreshP W pl)) := fun W hW => c_toSegmentS v pl W (HR.out.kept hW) (by omega) hmem
    obtain ⟨J, hJ⟩ : ∃ J, jnL pl i d = J := ⟨_, rfl⟩
    obtain ⟨jb, hjb⟩ : ∃ jb, jnB pl i d = jb := ⟨_, rfl⟩
    have hJM : cntM J ≤ 1048584 := by rw [← hJ]; have := jnL_cnt pl i d; omega
    have hJl : J.length ≤ 1099511627776 := by have := cntM_len J; omega
    have hJm : ∀ s ∈ J, s.2.length ≤ 1099511627776 := fun s hs => by have := cntM_mem J s hs; omega
    have HS : Hid (∀ t W, RdP W t pl → Calls Try.prog 20 #[t, (.int .i64 (i)), (.int .i64 (d))] W (FreshPB W J jb)) := fun t W h => by rw [← hJ, ← hjb]; exact c_spec_JoinSegments t pl i d W h (by omega) hmem hi1 hi2
    have HI : Hid (∀ t W, RdP W t pl → Calls Try.prog 22 #[t, (.int .i64 (i)), (.int .i64 (d))] W (FreshPB W J jb)) := fun t W h => by rw [← hJ, ← hjb]; exact c_impl_JoinSegments t pl i d W h (by omega) hmem hi1 hi2
    have HEJ : Hid (∀ a b W, RdP W a J → RdP W b J → Calls Try.prog 23 #[a, b] W fun e w' => e = .returned (.bool true) ∧ Below W.heap.size W w') := fun a b W h1 h2 => c_eqSegmentS a b J W h1 h2 hJl hJm
    have HEP : Hid (∀ a b W, RdP W a pl → RdP W b pl → Calls Try.prog 23 #[a, b] W fun e w' => e = .returned (.bool true) ∧ Below W.heap.size W w') := fun a b W h1 h2 => c_eqSegmentS a b pl W h1 h2 (by omega) hmem
    clear hmem hJl hJm hpl hJ hjb hi1 hi2
    go_wp2_with fail
    refine (HT.out _ hA).mono ?_
    rintro e w2 ⟨t, rfl, o_t, hB⟩
    replace hA := bthen hA hB
    clear hB
    go_wp2_with fail
    refine (HS.out t _ o_t.rd).mono ?_
    rintro e w3 ⟨r0, rfl, o_w, hB⟩
    replace hA := bthen hA hB
    have hw23 := hB.size
    have hs0 := hA.size
    clear hB o_t
    have OW := hidd o_w
    have HB3 := hidd (Below.refl w3.heap.size w3)
    clear o_w
    go_wp2_with fail
    refine (HT.out _ hA).mono ?_
    rintro e w4 ⟨x0, rfl, o_x, hB⟩
    replace hA := bthen hA hB
    replace HB3 := hidd (bthen HB3.out hB)
    have hs34 := hB.size
    clear hB
    have OX := hidd o_x.upto
    have hx0 := o_x.rd
    clear o_x
    go_wp2_with fail
    refine (HI.out x0 _ hx0).mono ?_
    rintro e w5 ⟨g0, rfl, o_g, hB⟩
    replace hA := bthen hA hB
    replace HB3 := hidd (bthen HB3.out hB)
    replace OX := hidd (OX.out.kept hB)
    have hs45 := hB.size
    clear hB hx0
    go_wp2_with fail
    refine (HEJ.out g0 r0 _ o_g.rd (OW.out.kept HB3.out).rd).mono ?_
    rintro e w6 ⟨rfl, hB⟩
    replace hA := bthen hA hB
    replace HB3 := hidd (bthen HB3.out hB)
    replace OX := hidd (OX.out.kept hB)
    replace o_g := o_g.kept hB
    have hs56 := hB.size
    clear hB
    go_wp2_with fail
    refine (HT.out _ hA).mono ?_
    rintro e w7 ⟨y0, rfl, o_y, hB⟩
    replace hA := bthen hA hB
    replace HB3 := hidd (bthen HB3.out hB)
    replace OX := hidd (OX.out.kept hB)
    replace o_g := o_g.kept hB
    have hs67 := hB.size
    clear hB
    go_wp2_with fail
    refine (HEP.out x0 y0 _ OX.out.own.rd o_y.rd).mono ?_
    rintro e w8 ⟨rfl, hB⟩
    replace hA := bthen hA hB
    replace HB3 := hidd (bthen HB3.out hB)
    replace OX := hidd (OX.out.kept hB)
    replace o_g := o_g.kept hB
    have hs78 := hB.size
    clear hB o_y
    go_wp2_with fail
    refine (c_markSegmentS x0 w3.heap.size w4.heap.size pl 1 _ OX.out (by omega) (by omega) (by omega) (by omega)).mono ?_
    rintro e w9 ⟨rfl, o_x, hB, hV⟩
    replace hA := hA.trans (hB.mono (by omega))
    replace HB3 := hidd (HB3.out.trans hB)
    replace o_g := o_g.above hV (Nat.le_refl _)
    have hs89 := hV.1
    clear hB hV OX o_x
    have hk1 : (0 : Int) ≤ (1 : Int) + (cntM pl : Int) := by omega
    go_wp2_with fail
    refine (HEJ.out g0 r0 _ o_g.rd (OW.out.kept HB3.out).rd).mono ?_
    rintro e w10 ⟨rfl, hB⟩
    replace hA := bthen hA hB
    replace HB3 := hidd (bthen HB3.out hB)
    replace o_g := o_g.kept hB
    have hs910 := hB.size
    clear hB
    have OG := hidd o_g.upto
    clear o_g
    go_wp2_with fail
    refine (c_markSegmentS g0 w4.heap.size w10.heap.size J 1 _ OG.out (by omega) (by omega) (by omega) (by omega)).mono ?_
    rintro e w11 ⟨rfl, o_g, hB, hV⟩
    replace hA := hA.trans (hB.mono (by omega))
    replace HB3 := hidd (HB3.out.trans (hB.mono (by omega)))
    have hs1011 := hV.1
    clear hB hV OG
    have hk2 : (0 : Int) ≤ (1 : Int) + (cntM J : Int) := by omega
    go_wp2_with fail
    refine (c_heldSegmentS g0 J 1 _ o_g.rd (by omega) (by omega) (by omega)).mono ?_
    rintro e w12 ⟨rfl, hB⟩
    replace hA := bthen hA hB
    replace HB3 := hidd (bthen HB3.out hB)
    replace o_g := o_g.kept hB
    have hs1112 := hB.size
    clear hB
    go_wp2_with fail
    refine (HT.out _ hA).mono ?_
    rintro e w13 ⟨z0, rfl, o_z, hB⟩
    replace hA := bthen hA hB
    replace HB3 := hidd (bthen HB3.out hB)
    replace o_g := o_g.kept hB
    have hs1213 := hB.size
    clear hB
    go_wp2_with fail
    refine (HI.out z0 _ o_z.rd).mono ?_
    rintro e w14 ⟨h0, rfl, o_h, hB⟩
    replace hA := bthen hA hB
    replace HB3 := hidd (bthen HB3.out hB)
    replace o_g := o_g.kept hB
    have hs1314 := hB.size
    clear hB o_z
    go_wp2_with fail
    refine (HEJ.out h0 r0 _ o_h.rd (OW.out.kept HB3.out).rd).mono ?_
    rintro e w15 ⟨rfl, hB⟩
    replace hA := bthen hA hB
    replace o_g := o_g.kept hB
    have hs1415 := hB.size
    clear hB o_h
    go_wp2_with fail
    refine (c_heldSegmentS g0 J 1 _ o_g.rd (by omega) (by omega) (by omega)).mono ?_
    rintro e w16 ⟨rfl, hB⟩
    replace hA := bthen hA hB
    clear hB o_g
    go_wp2
    go_ret
    exact ⟨rfl, hA⟩

set_option maxRecDepth 100000 in
theorem lifted_FnExactJoinSegments (os : Os) (started : os.Started) (H : Type) (enc : TypeId × Value → H) :
    ReturnsInHanded {} Try.checked os 4 .any (Rows.fnExactJoinSegmentsSpec.pre6 enc Try.prog Try.f4 Rows.fnExactJoinSegmentsRow.domain false) (Rows.fnExactJoinSegmentsSpec.post enc Try.prog Try.f4 false true false false) := by
  refine returnsInHanded_of_change (C := Try.checked) own started (by kernel_rfl) Try.func4
    (ChangeSpec.witness6 (enc := enc) (C := Try.checked) false ⟨#[], #[.slice none 0 0, .int .i64 0, .int .i64 0], []⟩ 8 (by kernel_rfl) (by kernel_rfl) (by kernel_rfl) (by kernel_rfl)) ?_
  intro W base args ds gs before hval0 hW hcnd _
  have hval : ∀ (j : Nat) t v, Try.f4.params[j]? = some t → args[j]? = some v → Value.okWide Try.prog W .any base t v := hval0
  have hW' := hW
  obtain ⟨p, q, hA0, hV, rfl, hfz, hnd⟩ := hW
  have hA : DataW.TrodAll enc Try.prog W 0 (fun _ => true) true Try.f4.params.toList args.toList ds p := hA0
  rw [Try.params4] at hA hval
  obtain ⟨v0, vs0, d0, ds0, p0, q0, hargs, rfl, rfl, h0, r0⟩ := trodAll_cons hA
  obtain ⟨v1, vs1, d1, ds1, p1, q1, rfl, rfl, rfl, h1, r1⟩ := trodAll_cons r0
  obtain ⟨v2, vs2, d2, ds2, p2, q2, rfl, rfl, rfl, h2, r2⟩ := trodAll_cons r1
  obtain ⟨rfl, rfl, rfl⟩ := trodAll_nil r2
  obtain rfl : args = #[v0, v1, v2] := by cases args; simp_all
  obtain ⟨rfl, rfl⟩ := trodVars_none hV
  obtain ⟨l0, w0⟩ := open_segs (hval 0 37 v0 rfl rfl) h0
  obtain ⟨a1, rfl, rfl, rfl, w1⟩ := open_int Try.underlying3 (hval 1 3 v1 rfl rfl) h1
  obtain ⟨a2, rfl, rfl, rfl, w2⟩ := open_int Try.underlying3 (hval 2 3 v2 rfl rfl) h2
  refine (walk_FnExactJoinSegments v0 l0 w0 a1 w1 a2 w2).mono fun e W' ⟨he, hg⟩ => ?_
  subst he
  exact ⟨_, rfl, law_post laidOut hW' rfl (by kernel_rfl) rfl Try.underlying4 rfl rfl rfl rfl hg⟩
theorem factA_FnExactJoinSegments : factsA Try.prog 4 Try.f4 Rows.fnExactJoinSegmentsSpec Rows.fnExactJoinSegmentsRow = true := by kernel_rfl
theorem fact9_FnExactJoinSegments : (Rows.fnExactJoinSegmentsRow.inPlace == Try.prog.inPlace 4) = true := by kernel_rfl
theorem fact10_FnExactJoinSegments : (Rows.fnExactJoinSegmentsRow.unfollowed == Try.prog.unfollowed 4) = true := by kernel_rfl
theorem fact11_FnExactJoinSegments : (Rows.fnExactJoinSegmentsRow.recurses == Try.prog.recurses 4) = true := by kernel_rfl
theorem fact12_FnExactJoinSegments : (Rows.fnExactJoinSegmentsRow.named == Try.prog.varsNamed 4) = true := by kernel_rfl
theorem factB_FnExactJoinSegments : factsB Try.prog 4 Try.f4 Rows.fnExactJoinSegmentsSpec Rows.fnExactJoinSegmentsRow = true := by kernel_rfl
theorem factN_FnExactJoinSegments : Try.prog.funcNamed Rows.fnExactJoinSegmentsRow.func = some 4 := by kernel_rfl
theorem proved_FnExactJoinSegments : Rows.FnExactJoinSegmentsSaid :=
  OpenClaim.holds_of_wide 4 Try.f4 rfl rfl rfl rfl rfl rfl rfl ⟨rfl, rfl, rfl, rfl, rfl⟩ rfl rfl rfl rfl rfl factN_FnExactJoinSegments Try.func4 (closed_of factA_FnExactJoinSegments fact9_FnExactJoinSegments fact10_FnExactJoinSegments fact11_FnExactJoinSegments fact12_FnExactJoinSegments factB_FnExactJoinSegments rfl rfl rfl)
    (of_decide_eq_true (by kernel_rfl)) (by unfold Func.isWrapper; first | (rw [if_pos (by decide +kernel)]; kernel_rfl) | (rw [if_neg (by decide +kernel)]; exact ⟨rfl, rfl⟩))
    (fun os started H enc _ => lifted_FnExactJoinSegments os started H enc)
end Go.Proofs.Ytkfejnifbkgihaa
