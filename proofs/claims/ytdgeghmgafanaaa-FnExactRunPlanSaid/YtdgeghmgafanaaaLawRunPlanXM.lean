/- FnExactRunPlan: the program's RunPlan returns what the reference's returns, keeps its arguments, and its list is its own, for all arguments. No condition. -/
import Derived.Test.YtdgeghmgafanaaaMRunPlanXSegO
import Derived.Test.YtdgeghmgafanaaaMRunPlanXEng9
namespace Go.Proofs.Ytdgeghmgafanaaa
set_option linter.unusedVariables false
open Go.ChangeShapes Go.WideShapes Go.ChangeAt Go.RowKit

theorem rnL_len (pl : List Seg) (W : Int) : (rnL pl W).length ≤ 60 := by
  unfold rnL
  split
  · rename_i h
    unfold rnB at h
    rw [Bool.and_eq_true] at h
    obtain ⟨h1, h2, h3⟩ := planB_iff.1 h.1
    have h4 := plV_len pl (segB_cnt pl h2)
    rw [rnV_len]
    omega
  · simp
set_option maxRecDepth 20000 in
set_option maxHeartbeats 1600000 in
theorem walk_FnExactRunPlan (v : Value) (pl : List Seg) {w : World} (hw : RdP w v pl ∧ pl.length ≤ 9223372036854775807 ∧ ∀ s ∈ pl, s.2.length ≤ 9223372036854775807) (d : Int) (hd : (Lit.int .i64 d).wf = true) :
    Calls Try.prog 3 #[v, (.int .i64 (d))] w fun e w' => e = .returned (.bool true) ∧ Below w.heap.size w w' := by
  obtain ⟨hR0, hl0, hp0⟩ := hw
  have HR := hidd hR0
  have HSZ := hidd (c_szSegmentS v pl 1048576 w hR0 hl0 hp0 (by omega) (by omega))
  clear hR0 hl0 hp0 hd
  go_enter Try.func3, Try.ntmps3
  go_wp2_with fail
  refine HSZ.out.mono ?_
  rintro e w1 ⟨r, rfl, hr1, hcnt, hA⟩
  clear HSZ
  by_cases hr0 : r < 0
  · clear hcnt
    go_wp2
    go_ret
    exact ⟨rfl, hA⟩
  · have hM : cntM pl ≤ 1048576 := by have := hcnt (by omega); omega
    clear hcnt
    have hpl : pl.length ≤ 1048576 := Nat.le_trans (cntM_len pl) hM
    have hmem : ∀ s ∈ pl, s.2.length ≤ 1099511627776 := fun s hs => by have := cntM_mem pl s hs; omega
    have HT : Hid (∀ W, Below w.heap.size w W → Calls Try.prog 9 #[v] W (FreshP W pl)) := fun W hW => c_toSegmentS v pl W (HR.out.kept hW) (by omega) hmem
    have hJl := rnL_len pl d
    have HS : Hid (∀ t W, RdP W t pl → Calls Try.prog 8 #[t, (.int .i64 (d))] W (FreshIB W (rnL pl d) (rnB pl d))) := fun t W h => c_sRunPlan t pl d W h (by omega) hmem
    have HI : Hid (∀ t W, RdP W t pl → Calls Try.prog 10 #[t, (.int .i64 (d))] W (FreshIB W (rnL pl d) (rnB pl d))) := fun t W h => c_RunPlan t pl d W h (by omega) hmem
    have HEP : Hid (∀ a b W, RdP W a pl → RdP W b pl → Calls Try.prog 12 #[a, b] W fun e w' => e = .returned (.bool true) ∧ Below W.heap.size W w') := fun a b W h1 h2 => c_eqSegmentS a b pl W h1 h2 (by omega) hmem
    generalize rnL pl d = J at *
    generalize rnB pl d = jb at *
    have HEJ : Hid (∀ a b W, RdI W a J → RdI W b J → Calls Try.prog 11 #[a, b] W fun e w' => e = .returned (.bool true) ∧ Below W.heap.size W w') := fun a b W h1 h2 => c_eqIntS_t a b J W h1 h2 (by omega)
    clear hmem hpl
    go_wp2_with fail
    refine (HT.out _ hA).mono ?_
    rintro e w2 ⟨t, rfl, o_t, hB⟩
    replace hA := bthen hA hB
    clear hB
    go_wp2_with fail
    refine (HS.out t _ o_t.rd).mono ?_
    rintro e w3 ⟨r0, rfl, o_w, hB⟩
    replace hA := bthen hA hB
    have hw23 := hB.size
    have hs0 := hA.size
    clear hB o_t
    have OW := hidd (owns_RdI o_w)
    have HB3 := hidd (Below.refl w3.heap.size w3)
    clear o_w
    go_wp2_with fail
    refine (HT.out _ hA).mono ?_
    rintro e w4 ⟨x0, rfl, o_x, hB⟩
    replace hA := bthen hA hB
    replace HB3 := hidd (bthen HB3.out hB)
    have hs34 := hB.size
    clear hB
    have OX := hidd o_x.upto
    have hx0 := o_x.rd
    clear o_x
    go_wp2_with fail
    refine (HI.out x0 _ hx0).mono ?_
    rintro e w5 ⟨g0, rfl, o_g, hB⟩
    replace hA := bthen hA hB
    replace HB3 := hidd (bthen HB3.out hB)
    replace OX := hidd (OX.out.kept hB)
    have hs45 := hB.size
    clear hB hx0
    go_wp2_with fail
    refine (HEJ.out g0 r0 _ (owns_RdI o_g) (OW.out.kept HB3.out)).mono ?_
    rintro e w6 ⟨rfl, hB⟩
    replace hA := bthen hA hB
    replace HB3 := hidd (bthen HB3.out hB)
    replace OX := hidd (OX.out.kept hB)
    replace o_g := ownsRow_kept_below o_g hB
    have hs56 := hB.size
    clear hB
    go_wp2_with fail
    refine (HT.out _ hA).mono ?_
    rintro e w7 ⟨y0, rfl, o_y, hB⟩
    replace hA := bthen hA hB
    replace HB3 := hidd (bthen HB3.out hB)
    replace OX := hidd (OX.out.kept hB)
    replace o_g := ownsRow_kept_below o_g hB
    have hs67 := hB.size
    clear hB
    go_wp2_with fail
    refine (HEP.out x0 y0 _ OX.out.own.rd o_y.rd).mono ?_
    rintro e w8 ⟨rfl, hB⟩
    replace hA := bthen hA hB
    replace HB3 := hidd (bthen HB3.out hB)
    replace OX := hidd (OX.out.kept hB)
    replace o_g := ownsRow_kept_below o_g hB
    have hs78 := hB.size
    clear hB o_y
    go_wp2_with fail
    refine (c_markSegmentS x0 w3.heap.size w4.heap.size pl 1 _ OX.out (by omega) (by omega) (by omega) (by omega)).mono ?_
    rintro e w9 ⟨rfl, o_x, hB, hV⟩
    replace hA := hA.trans (hB.mono (by omega))
    replace HB3 := hidd (HB3.out.trans hB)
    replace o_g := hV.row (Nat.le_refl _) o_g
    have hs89 := hV.1
    clear hB hV OX o_x
    have hk1 : (0 : Int) ≤ (1 : Int) + (cntM pl : Int) := by omega
    go_wp2_with fail
    refine (HEJ.out g0 r0 _ (owns_RdI o_g) (OW.out.kept HB3.out)).mono ?_
    rintro e w10 ⟨rfl, hB⟩
    replace hA := bthen hA hB
    replace HB3 := hidd (bthen HB3.out hB)
    replace o_g := ownsRow_kept_below o_g hB
    have hs910 := hB.size
    clear hB
    have HL60 := hidd hJl
    go_wp2_with fail
    refine (k_mark_ints g0 w4.heap.size J 1 _ o_g (by omega) (by omega) (by omega) (by omega)).mono ?_
    rintro e w11 ⟨rfl, o_g1, hB, _⟩
    replace hA := hA.trans (hB.mono (by omega))
    replace HB3 := hidd (HB3.out.trans (hB.mono (by omega)))
    have hs1011 := hB.size
    clear hB o_g
    have hk2 : (0 : Int) ≤ (1 : Int) + (J.length : Int) := by omega
    go_wp2_with fail
    refine (k_held_ints g0 w4.heap.size 1 J.length _ o_g1 (by omega) (by omega) (by omega)).mono ?_
    rintro e w12 ⟨rfl, hB⟩
    replace hA := bthen hA hB
    replace HB3 := hidd (bthen HB3.out hB)
    replace o_g1 := ownsRow_kept_below o_g1 hB
    have hs1112 := hB.size
    clear hB
    go_wp2_with fail
    refine (HT.out _ hA).mono ?_
    rintro e w13 ⟨z0, rfl, o_z, hB⟩
    replace hA := bthen hA hB
    replace HB3 := hidd (bthen HB3.out hB)
    replace o_g1 := ownsRow_kept_below o_g1 hB
    have hs1213 := hB.size
    clear hB
    go_wp2_with fail
    refine (HI.out z0 _ o_z.rd).mono ?_
    rintro e w14 ⟨h0, rfl, o_h, hB⟩
    replace hA := bthen hA hB
    replace HB3 := hidd (bthen HB3.out hB)
    replace o_g1 := ownsRow_kept_below o_g1 hB
    have hs1314 := hB.size
    clear hB o_z
    go_wp2_with fail
    refine (HEJ.out h0 r0 _ (owns_RdI o_h) (OW.out.kept HB3.out)).mono ?_
    rintro e w15 ⟨rfl, hB⟩
    replace hA := bthen hA hB
    replace o_g1 := ownsRow_kept_below o_g1 hB
    have hs1415 := hB.size
    clear hB o_h
    go_wp2_with fail
    refine (k_held_ints g0 w4.heap.size 1 J.length _ o_g1 (by omega) (by omega) (by omega)).mono ?_
    rintro e w16 ⟨rfl, hB⟩
    replace hA := bthen hA hB
    clear hB o_g1
    go_wp2
    go_ret
    exact ⟨rfl, hA⟩

set_option maxRecDepth 100000 in
theorem lifted_FnExactRunPlan (os : Os) (started : os.Started) (H : Type) (enc : TypeId × Value → H) :
    ReturnsInHanded {} Try.checked os 3 .any (Rows.fnExactRunPlanSpec.pre6 enc Try.prog Try.f3 Rows.fnExactRunPlanRow.domain false) (Rows.fnExactRunPlanSpec.post enc Try.prog Try.f3 false true false false) := by
  refine returnsInHanded_of_change (C := Try.checked) own started (by kernel_rfl) Try.func3
    (ChangeSpec.witness6 (enc := enc) (C := Try.checked) false ⟨#[], #[.slice none 0 0, .int .i64 0], []⟩ 8 (by kernel_rfl) (by kernel_rfl) (by kernel_rfl) (by kernel_rfl)) ?_
  intro W base args ds gs before hval0 hW hcnd _
  have hval : ∀ (j : Nat) t v, Try.f3.params[j]? = some t → args[j]? = some v → Value.okWide Try.prog W .any base t v := hval0
  have hW' := hW
  obtain ⟨p, q, hA0, hV, rfl, hfz, hnd⟩ := hW
  have hA : DataW.TrodAll enc Try.prog W 0 (fun _ => true) true Try.f3.params.toList args.toList ds p := hA0
  rw [Try.params3] at hA hval
  obtain ⟨v0, vs0, d0, ds0, p0, q0, hargs, rfl, rfl, h0, r0⟩ := trodAll_cons hA
  obtain ⟨v1, vs1, d1, ds1, p1, q1, rfl, rfl, rfl, h1, r1⟩ := trodAll_cons r0
  obtain ⟨rfl, rfl, rfl⟩ := trodAll_nil r1
  obtain rfl : args = #[v0, v1] := by cases args; simp_all
  obtain ⟨rfl, rfl⟩ := trodVars_none hV
  obtain ⟨l0, w0⟩ := open_segs (hval 0 22 v0 rfl rfl) h0
  obtain ⟨a1, rfl, rfl, rfl, w1⟩ := open_int Try.underlying3 (hval 1 3 v1 rfl rfl) h1
  refine (walk_FnExactRunPlan v0 l0 w0 a1 w1).mono fun e W' ⟨he, hg⟩ => ?_
  subst he
  exact ⟨_, rfl, law_post laidOut hW' rfl (by kernel_rfl) rfl Try.underlying4 rfl rfl rfl rfl hg⟩
theorem factA_FnExactRunPlan : factsA Try.prog 3 Try.f3 Rows.fnExactRunPlanSpec Rows.fnExactRunPlanRow = true := by kernel_rfl
theorem fact9_FnExactRunPlan : (Rows.fnExactRunPlanRow.inPlace == Try.prog.inPlace 3) = true := by kernel_rfl
theorem fact10_FnExactRunPlan : (Rows.fnExactRunPlanRow.unfollowed == Try.prog.unfollowed 3) = true := by kernel_rfl
theorem fact11_FnExactRunPlan : (Rows.fnExactRunPlanRow.recurses == Try.prog.recurses 3) = true := by kernel_rfl
theorem fact12_FnExactRunPlan : (Rows.fnExactRunPlanRow.named == Try.prog.varsNamed 3) = true := by kernel_rfl
theorem factB_FnExactRunPlan : factsB Try.prog 3 Try.f3 Rows.fnExactRunPlanSpec Rows.fnExactRunPlanRow = true := by kernel_rfl
theorem factN_FnExactRunPlan : Try.prog.funcNamed Rows.fnExactRunPlanRow.func = some 3 := by kernel_rfl
theorem proved_FnExactRunPlan : Rows.FnExactRunPlanSaid :=
  OpenClaim.holds_of_wide 3 Try.f3 rfl rfl rfl rfl rfl rfl rfl ⟨rfl, rfl, rfl, rfl, rfl⟩ rfl rfl rfl rfl rfl factN_FnExactRunPlan Try.func3 (closed_of factA_FnExactRunPlan fact9_FnExactRunPlan fact10_FnExactRunPlan fact11_FnExactRunPlan fact12_FnExactRunPlan factB_FnExactRunPlan rfl rfl rfl)
    (of_decide_eq_true (by kernel_rfl)) (by unfold Func.isWrapper; first | (rw [if_pos (by decide +kernel)]; kernel_rfl) | (rw [if_neg (by decide +kernel)]; exact ⟨rfl, rfl⟩))
    (fun os started H enc _ => lifted_FnExactRunPlan os started H enc)
end Go.Proofs.Ytdgeghmgafanaaa
