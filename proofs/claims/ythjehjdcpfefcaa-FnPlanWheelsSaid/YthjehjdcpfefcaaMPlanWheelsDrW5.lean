/- Lemmas and contracts for PlanWheels (DrW5): plain words on memory, contracts of the functions that the law reaches. No condition but what each states. -/
import Derived.Test.YthjehjdcpfefcaaDrB
import Derived.Test.YthjehjdcpfefcaaMPlanWheelsEng9
namespace Go.Proofs.Ythjehjdcpfefcaa
set_option linter.unusedVariables false
open Go.RowKit

set_option maxRecDepth 20000 in
theorem c_l1Any (g P : Nat) (w : World) (h : IsRdB w g P) (hp : P ≤ 950000) :
    Calls Try.prog 66 #[.pointer (some ⟨g, 0, none⟩)] w (DrawI w g (P + 1) fun _ => True) := by
  go_enter Try.func66, Try.ntmps66
  go_wp2_with fail
  refine (d_numlit g P [4, 6, 1, 2, 3, 5, 8, 12] w h (by omega) (by decide) (by decide)).mono ?_
  rintro e w2 ⟨y, rfl, _, hr2, hg2⟩
  have HO : Hid (IsRdB w2 g (P + 1) ∧ w.grownBy w2 (some g)) := ⟨hr2, hg2⟩
  clear hr2 hg2
  go_wp2
  go_ret
  exact ⟨_, rfl, trivial, HO.out.1, HO.out.2⟩
set_option maxRecDepth 20000 in
theorem c_l1Wide (g P : Nat) (w : World) (h : IsRdB w g P) (hp : P ≤ 900000) :
    Calls Try.prog 37 #[.pointer (some ⟨g, 0, none⟩)] w (DrawI w g (P + 2) fun _ => True) := by
  go_enter Try.func37, Try.ntmps37
  go_wp2_with fail
  refine (d_pick g P _ w h (by omega)).mono ?_
  rintro e w1 ⟨x, rfl, ⟨hx0, hx1⟩, hr1, hg1⟩
  by_cases hx : x = 0
  · subst hx
    go_wp2_with fail
    refine (d_numlit g (P + 1) [0, 13, -1, 9223372036854775807] w1 hr1 (by omega) (by decide) (by decide)).mono ?_
    rintro e w2 ⟨y, rfl, _, hr2, hg2⟩
    have HO : Hid (IsRdB w2 g (P + 2) ∧ w.grownBy w2 (some g)) := ⟨hr2.mono (by omega), grownBy_trans hg1 hg2⟩
    clear hr2 hg2 hr1 hg1
    go_wp2
    go_ret
    exact ⟨_, rfl, trivial, HO.out.1, HO.out.2⟩
  · have hx' : (x == 0) = false := beq_eq_false_iff_ne.2 hx
    clear hx
    go_wp2_with fail
    refine (c_l1Any g (P + 1) w1 hr1 (by omega)).mono ?_
    rintro e w2 ⟨y, rfl, _, hr2, hg2⟩
    have HO : Hid (IsRdB w2 g (P + 2) ∧ w.grownBy w2 (some g)) := ⟨hr2.mono (by omega), grownBy_trans hg1 hg2⟩
    clear hr2 hg2 hr1 hg1
    go_wp2
    go_ret
    exact ⟨_, rfl, trivial, HO.out.1, HO.out.2⟩
def DrawnPW (w : World) (e : Ending) (w' : World) : Prop := ∃ v pl, ∃ W : Int, e = .returned (.tuple #[v, .int .i64 W]) ∧ OwP w' w.heap.size v pl ∧ PlD pl ∧ Below w.heap.size w w'
set_option maxRecDepth 20000 in
theorem c_DrawRunPlan (v : Value) (cs : List Int) (w : World) (hv : RdL w v (cs.map (Value.int .u8))) (hl : cs.length ≤ 1099511627776) (hb : ∀ n ∈ cs, (Lit.int .u8 n).wf = true) (hcap : CapOk v) :
    Calls Try.prog 11 #[v] w (DrawnPW w) := by
  go_enter Try.func11, Try.ntmps11
  go_wp2_with fail
  refine (c_l9Open _ cs _ hv hl hb hcap).mono ?_
  rintro e w1 ⟨g, rfl, hr1, hgb, hB1⟩
  clear hb hcap hv
  go_wp2_with fail
  refine (c_l5Plan g 0 w1 hr1 (by omega)).mono ?_
  rintro e w2 ⟨v2, pl, rfl, ho2, hd2, ⟨hl2, _⟩, hr2, hG2⟩
  go_wp2_with fail
  refine (c_l5Bad g _ v2 pl w1 w2 hr2 (by omega) ho2 hd2 hl2 hG2 hr1.lt).mono ?_
  rintro e w3 ⟨v3, pl3, rfl, ho3, hd3, _, hr3, hG3⟩
  have HB3 : Hid (Below w.heap.size w w3) := hB1.grown hG3 hB1.size (fun k hk => by cases hk; exact hgb)
  have hgl := hr1.lt
  have HB1 := hidd hB1
  have HD3 := hidd hd3
  clear ho2 hr1 hr2 hG2 hG3 hd2 hB1 hd3
  go_wp2_with fail
  refine (d_pick g _ _ w3 hr3 (by omega)).mono ?_
  rintro e w4 ⟨x, rfl, ⟨hx0, hx1⟩, hr4, hg4⟩
  have ho4 := ho3.keptNew hg4 (fun k hk => by cases hk; exact hgl)
  have HB4 : Hid (Below w.heap.size w w4) := HB3.out.grown hg4 HB3.out.size (fun k hk => by cases hk; exact hgb)
  clear ho3 hr3 hg4
  by_cases hx : x = 0
  · subst hx
    go_wp2_with fail
    refine (c_l1Wide g _ w4 hr4 (by omega)).mono ?_
    rintro e w5 ⟨y, rfl, _, hr5, hg5⟩
    have HF : Hid (DrawnPW w (.returned (.tuple #[v3, .int .i64 y])) w5) := ⟨_, _, _, rfl, (ho4.keptNew hg5 (fun k hk => by cases hk; exact hgl)).mono HB1.out.size, HD3.out, HB4.out.grown hg5 HB4.out.size (fun k hk => by cases hk; exact hgb)⟩
    clear ho4 hr5 hr4 hg5
    go_wp2
    go_ret2
    exact HF.out
  · have hx' : (x == 0) = false := beq_eq_false_iff_ne.2 hx
    have HF : Hid (DrawnPW w (.returned (.tuple #[v3, .int .i64 8])) w4) := ⟨_, _, _, rfl, ho4.mono HB1.out.size, HD3.out, HB4.out⟩
    clear hx ho4 hr4
    go_wp2
    go_ret2
    exact HF.out
set_option maxRecDepth 20000 in
theorem c_DrawPlanWheels (v : Value) (cs : List Int) (w : World) (hv : RdL w v (cs.map (Value.int .u8))) (hl : cs.length ≤ 1099511627776) (hb : ∀ n ∈ cs, (Lit.int .u8 n).wf = true) (hcap : CapOk v) :
    Calls Try.prog 17 #[v] w (DrawnPW w) := by
  go_enter Try.func17, Try.ntmps17
  go_wp2_with fail
  refine (c_DrawRunPlan _ cs _ hv hl hb hcap).mono ?_
  rintro e w1 ⟨u, pl, W, rfl, ho, hd, hB⟩
  have HF : Hid (DrawnPW w (.returned (.tuple #[u, .int .i64 W])) w1) := ⟨_, _, _, rfl, ho, hd, hB⟩
  clear hv hb hcap ho hd hB
  go_wp2
  go_ret2
  exact HF.out
theorem wfN_step (n : Int) (f k : Nat) : wfN n (f + 1) k = if fitB n k = true then k else wfN n f (k + 1) := rfl
set_option maxRecDepth 20000 in
theorem c_WidthFor (n : Int) (w : World) :
    Calls Try.prog 16 #[(.int .i64 (n))] w fun e w' => e = .returned (.int .i64 ((wfF n : Int))) ∧ Below w.heap.size w w' := by
  have HC : Hid (∀ (k : Nat) W, 1 ≤ k → k ≤ 12 → Calls Try.prog 41 #[(.int .i64 (n)), (.int .i64 ((k : Int)))] W fun e w' => (∃ v, e = .returned (.tuple #[v, .bool (fitB n k)])) ∧ Below W.heap.size W w') := fun k W h1 h2 => by
    refine (c_ColumnOfC k n W).mono fun e w' h => ?_
    have hk : okC k n = fitB n k := by unfold okC; rw [inB_t (by omega) (by omega), Bool.true_and, Int.toNat_natCast]
    rw [hk] at h
    cases hf : fitB n k
    · rw [hf, if_neg (by decide)] at h
      obtain ⟨rfl, hB⟩ := h
      exact ⟨⟨_, rfl⟩, hB⟩
    · rw [hf, if_pos rfl] at h
      obtain ⟨rfl, hB⟩ := h
      exact ⟨⟨_, rfl⟩, hB⟩
  go_enter Try.func16, Try.ntmps16
  go_wp2
  go_loopw [3] (fun i wr => ∃ j : Nat, 1 ≤ j ∧ j ≤ 13 ∧ i = .int .i64 j ∧ wfF n = wfN n (13 - j) j ∧ Below w.heap.size w wr) (fun i _ => 13 - (intOf i).toNat)
  case atStart => exact ⟨1, by omega, by omega, rfl, rfl, Below.refl _ _⟩
  case round =>
    obtain ⟨j, hj1, hj, rfl, hw, hB⟩ := hrel
    have HW := hidd hw
    clear hw
    by_cases hlt : j ≤ 12
    · have hS : wfN n (13 - j) j = if fitB n j = true then j else wfN n (13 - (j + 1)) (j + 1) := by
        rw [show 13 - j = (13 - (j + 1)) + 1 by omega]; exact wfN_step _ _ _
      cases hf : fitB n j
      · have HN : Hid (wfF n = wfN n (13 - (j + 1)) (j + 1)) := by show _ = _; rw [HW.out, hS, hf]; rfl
        have HCJ := HC.out j wr hj1 hlt
        rw [hf] at HCJ
        have HCJ := hidd HCJ
        clear hf hS
        go_wp2_with fail
        refine HCJ.out.mono ?_
        rintro e w2 ⟨⟨v, rfl⟩, hB2⟩
        have HB := hidd (bthen hB hB2)
        clear hB hB2
        go_wp2
        go_roundw
        case rel => exact ⟨j + 1, by omega, by omega, by go_num, HN.out, HB.out⟩
        case measure => simp [intOf]; omega
      · have HN : Hid (wfF n = j) := by show _ = _; rw [HW.out, hS, hf]; rfl
        have HCJ := HC.out j wr hj1 hlt
        rw [hf] at HCJ
        have HCJ := hidd HCJ
        clear hf hS
        go_wp2_with fail
        refine HCJ.out.mono ?_
        rintro e w2 ⟨⟨v, rfl⟩, hB2⟩
        have HB := hidd (bthen hB hB2)
        clear hB hB2
        go_wp2
        go_ret
        exact ⟨by rw [HN.out]; rfl, HB.out⟩
    · obtain rfl : j = 13 := by omega
      have HN : Hid (wfF n = 0) := HW.out
      have HB := hidd hB
      clear hB
      go_wp2
      go_ret
      exact ⟨by rw [HN.out]; rfl, HB.out⟩
end Go.Proofs.Ythjehjdcpfefcaa
