/- FnExactPlanWheels: the program's PlanWheels returns what the reference's returns, and keeps its arguments, for all arguments. No condition. -/
import Derived.Test.YthjehjdcpfefcaaMPlanWheelsXSegO
import Derived.Test.YthjehjdcpfefcaaMPlanWheelsXEng13
namespace Go.Proofs.Ythjehjdcpfefcaa
set_option linter.unusedVariables false
open Go.ChangeShapes Go.WideShapes Go.ChangeAt Go.RowKit

set_option maxRecDepth 20000 in
set_option maxHeartbeats 1600000 in
theorem walk_FnExactPlanWheels (v : Value) (pl : List Seg) {w : World} (hw : RdP w v pl ∧ pl.length ≤ 9223372036854775807 ∧ ∀ s ∈ pl, s.2.length ≤ 9223372036854775807) (d : Int) (hd : (Lit.int .i64 d).wf = true) :
    Calls Try.prog 3 #[v, (.int .i64 (d))] w fun e w' => e = .returned (.bool true) ∧ Below w.heap.size w w' := by
  obtain ⟨hR0, hl0, hp0⟩ := hw
  have HR := hidd hR0
  have HSZ := hidd (c_szSegmentS v pl 1048576 w hR0 hl0 hp0 (by omega) (by omega))
  clear hR0 hl0 hp0 hd
  go_enter Try.func3, Try.ntmps3
  go_wp2_with fail
  refine HSZ.out.mono ?_
  rintro e w1 ⟨r, rfl, hr1, hcnt, hA⟩
  clear HSZ
  by_cases hr0 : r < 0
  · clear hcnt
    go_wp2
    go_ret
    exact ⟨rfl, hA⟩
  · have hM : cntM pl ≤ 1048576 := by have := hcnt (by omega); omega
    clear hcnt
    have hpl : pl.length ≤ 1048576 := Nat.le_trans (cntM_len pl) hM
    have hmem : ∀ s ∈ pl, s.2.length ≤ 1099511627776 := fun s hs => by have := cntM_mem pl s hs; omega
    have HT : Hid (∀ W, Below w.heap.size w W → Calls Try.prog 8 #[v] W (FreshP W pl)) := fun W hW => c_toSegmentS v pl W (HR.out.kept hW) (by omega) hmem
    have HS : Hid (∀ t W, RdP W t pl → Calls Try.prog 7 #[t, (.int .i64 (d))] W fun e w' => e = .returned (.int .i64 (whF pl d)) ∧ Below W.heap.size W w') := fun t W h => c_sPlanWheels t pl d W h (by omega) hmem
    have HI : Hid (∀ t W, RdP W t pl → Calls Try.prog 9 #[t, (.int .i64 (d))] W fun e w' => e = .returned (.int .i64 (whF pl d)) ∧ Below W.heap.size W w') := fun t W h => c_PlanWheels t pl d W h (by omega) hmem
    have HEP : Hid (∀ a b W, RdP W a pl → RdP W b pl → Calls Try.prog 10 #[a, b] W fun e w' => e = .returned (.bool true) ∧ Below W.heap.size W w') := fun a b W h1 h2 => c_eqSegmentS a b pl W h1 h2 (by omega) hmem
    generalize whF pl d = J at *
    clear hmem hpl
    go_wp2_with fail
    refine (HT.out _ hA).mono ?_
    rintro e w2 ⟨t, rfl, o_t, hB⟩
    replace hA := bthen hA hB
    clear hB
    go_wp2_with fail
    refine (HS.out t _ o_t.rd).mono ?_
    rintro e w3 ⟨rfl, hB⟩
    replace hA := bthen hA hB
    clear hB o_t
    go_wp2_with fail
    refine (HT.out _ hA).mono ?_
    rintro e w4 ⟨x0, rfl, o_x, hB⟩
    replace hA := bthen hA hB
    clear hB
    have hx0 := o_x.rd
    clear o_x
    go_wp2_with fail
    refine (HI.out x0 _ hx0).mono ?_
    rintro e w5 ⟨rfl, hB⟩
    replace hA := bthen hA hB
    replace hx0 := hx0.kept hB
    clear hB
    go_wp2_with fail
    refine (HT.out _ hA).mono ?_
    rintro e w7 ⟨y0, rfl, o_y, hB⟩
    replace hA := bthen hA hB
    replace hx0 := hx0.kept hB
    clear hB
    go_wp2_with fail
    refine (HEP.out x0 y0 _ hx0 o_y.rd).mono ?_
    rintro e w8 ⟨rfl, hB⟩
    replace hA := bthen hA hB
    clear hB o_y hx0
    go_wp2
    go_ret
    exact ⟨rfl, hA⟩

set_option maxRecDepth 100000 in
theorem lifted_FnExactPlanWheels (os : Os) (started : os.Started) (H : Type) (enc : TypeId × Value → H) :
    ReturnsInHanded {} Try.checked os 3 .any (Rows.fnExactPlanWheelsSpec.pre6 enc Try.prog Try.f3 Rows.fnExactPlanWheelsRow.domain false) (Rows.fnExactPlanWheelsSpec.post enc Try.prog Try.f3 false true false false) := by
  refine returnsInHanded_of_change (C := Try.checked) own started (by kernel_rfl) Try.func3
    (ChangeSpec.witness6 (enc := enc) (C := Try.checked) false ⟨#[], #[.slice none 0 0, .int .i64 0], []⟩ 8 (by kernel_rfl) (by kernel_rfl) (by kernel_rfl) (by kernel_rfl)) ?_
  intro W base args ds gs before hval0 hW hcnd _
  have hval : ∀ (j : Nat) t v, Try.f3.params[j]? = some t → args[j]? = some v → Value.okWide Try.prog W .any base t v := hval0
  have hW' := hW
  obtain ⟨p, q, hA0, hV, rfl, hfz, hnd⟩ := hW
  have hA : DataW.TrodAll enc Try.prog W 0 (fun _ => true) true Try.f3.params.toList args.toList ds p := hA0
  rw [Try.params3] at hA hval
  obtain ⟨v0, vs0, d0, ds0, p0, q0, hargs, rfl, rfl, h0, r0⟩ := trodAll_cons hA
  obtain ⟨v1, vs1, d1, ds1, p1, q1, rfl, rfl, rfl, h1, r1⟩ := trodAll_cons r0
  obtain ⟨rfl, rfl, rfl⟩ := trodAll_nil r1
  obtain rfl : args = #[v0, v1] := by cases args; simp_all
  obtain ⟨rfl, rfl⟩ := trodVars_none hV
  obtain ⟨l0, w0⟩ := open_segs (hval 0 22 v0 rfl rfl) h0
  obtain ⟨a1, rfl, rfl, rfl, w1⟩ := open_int Try.underlying3 (hval 1 3 v1 rfl rfl) h1
  refine (walk_FnExactPlanWheels v0 l0 w0 a1 w1).mono fun e W' ⟨he, hg⟩ => ?_
  subst he
  exact ⟨_, rfl, law_post laidOut hW' rfl (by kernel_rfl) rfl Try.underlying4 rfl rfl rfl rfl hg⟩
theorem factA_FnExactPlanWheels : factsA Try.prog 3 Try.f3 Rows.fnExactPlanWheelsSpec Rows.fnExactPlanWheelsRow = true := by kernel_rfl
theorem fact9_FnExactPlanWheels : (Rows.fnExactPlanWheelsRow.inPlace == Try.prog.inPlace 3) = true := by kernel_rfl
theorem fact10_FnExactPlanWheels : (Rows.fnExactPlanWheelsRow.unfollowed == Try.prog.unfollowed 3) = true := by kernel_rfl
theorem fact11_FnExactPlanWheels : (Rows.fnExactPlanWheelsRow.recurses == Try.prog.recurses 3) = true := by kernel_rfl
theorem fact12_FnExactPlanWheels : (Rows.fnExactPlanWheelsRow.named == Try.prog.varsNamed 3) = true := by kernel_rfl
theorem factB_FnExactPlanWheels : factsB Try.prog 3 Try.f3 Rows.fnExactPlanWheelsSpec Rows.fnExactPlanWheelsRow = true := by kernel_rfl
theorem factN_FnExactPlanWheels : Try.prog.funcNamed Rows.fnExactPlanWheelsRow.func = some 3 := by kernel_rfl
theorem proved_FnExactPlanWheels : Rows.FnExactPlanWheelsSaid :=
  OpenClaim.holds_of_wide 3 Try.f3 rfl rfl rfl rfl rfl rfl rfl ⟨rfl, rfl, rfl, rfl, rfl⟩ rfl rfl rfl rfl rfl factN_FnExactPlanWheels Try.func3 (closed_of factA_FnExactPlanWheels fact9_FnExactPlanWheels fact10_FnExactPlanWheels fact11_FnExactPlanWheels fact12_FnExactPlanWheels factB_FnExactPlanWheels rfl rfl rfl)
    (of_decide_eq_true (by kernel_rfl)) (by unfold Func.isWrapper; first | (rw [if_pos (by decide +kernel)]; kernel_rfl) | (rw [if_neg (by decide +kernel)]; exact ⟨rfl, rfl⟩))
    (fun os started H enc _ => lifted_FnExactPlanWheels os started H enc)
end Go.Proofs.Ythjehjdcpfefcaa
