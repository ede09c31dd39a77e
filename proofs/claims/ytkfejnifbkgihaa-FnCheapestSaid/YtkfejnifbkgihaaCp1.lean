/- Contracts: drawn costs, the drawn arguments of the cheapest plan, valid costs. -/
import Derived.Test.YtkfejnifbkgihaaDrS5
import Derived.Test.YtkfejnifbkgihaaCpP
namespace Go.Proofs.Ytkfejnifbkgihaa
set_option linter.unusedVariables false
open Go.RowKit

/-- a function of four results returns them -/
theorem results_tmp4 {fn : Func} {s t u v : Tmp} (h : fn.results = #[.tmp s, .tmp t, .tmp u, .tmp v]) (tmps : Array Value) (P : Program) (w : World) :
    (results fn tmps).run P w = .ok (.tuple #[tmps.getD s undef, tmps.getD t undef, tmps.getD u undef, tmps.getD v undef]) w := by
  simp [results, h]
/-- two costs are drawn -/
def DrawC (w : World) (g P : Nat) (e : Ending) (w' : World) : Prop :=
  ∃ a b : Int, e = .returned (.tuple #[.int .i64 a, .int .i64 b]) ∧ (-1 ≤ a ∧ a ≤ 1001) ∧ (-1 ≤ b ∧ b ≤ 1001) ∧ IsRdB w' g P ∧ w.grownBy w' (some g)
set_option maxRecDepth 20000 in
set_option maxHeartbeats 800000 in
theorem c_l5Costs (g P : Nat) (w : World) (h : IsRdB w g P) (hp : P ≤ 900000) :
    Calls Try.prog 70 #[.pointer (some ⟨g, 0, none⟩)] w (DrawC w g (P + 3)) := by
  have hgw := h.lt
  go_enter Try.func70, Try.ntmps70
  go_wp2_with fail
  refine (d_pick g _ _ _ h (by omega)).mono ?_
  rintro e w2 ⟨x, rfl, ⟨hx0, hx1⟩, hr2, hg2⟩
  clear h hx1
  by_cases hx : x = 0
  · subst hx
    have hd1 := d_numlit g _ [-1, 1000, 1001] w2 hr2 (by omega) (by decide) (by decide)
    go_wp2_with fail
    refine hd1.mono ?_
    rintro e w3 ⟨a, rfl, ha, hr3, hg3⟩
    have hab : -1 ≤ a ∧ a ≤ 1001 := by simp at ha; omega
    have HAB := hidd hab
    have hG3 := grownBy_trans hg2 hg3
    clear hd1 hr2 hg2 hg3 ha hab
    have hd2 := d_numlit g _ [0, 1000, 1001] w3 hr3 (by omega) (by decide) (by decide)
    go_wp2_with fail
    refine hd2.mono ?_
    rintro e w4 ⟨b, rfl, hb, hr4, hg4⟩
    have hbb : -1 ≤ b ∧ b ≤ 1001 := by simp at hb; omega
    have HF : Hid (DrawC w g (P + 3) (.returned (.tuple #[.int .i64 a, .int .i64 b])) w4) := ⟨_, _, rfl, HAB.out, hbb, hr4.mono (by omega), grownBy_trans hG3 hg4⟩
    clear hd2 hr3 hG3 hg4 hb hbb hr4
    go_wp2
    go_ret2
    exact HF.out
  · have hx' : (x == 0) = false := beq_eq_false_iff_ne.2 hx
    clear hx
    have hd1 := d_numlit g _ [5, 1, 0, 20, 3] w2 hr2 (by omega) (by decide) (by decide)
    go_wp2_with fail
    refine hd1.mono ?_
    rintro e w3 ⟨a, rfl, ha, hr3, hg3⟩
    have hab : -1 ≤ a ∧ a ≤ 1001 := by simp at ha; omega
    have HAB := hidd hab
    have hG3 := grownBy_trans hg2 hg3
    clear hd1 hr2 hg2 hg3 ha hab
    have hd2 := d_numlit g _ [1, 0, 2, 7] w3 hr3 (by omega) (by decide) (by decide)
    go_wp2_with fail
    refine hd2.mono ?_
    rintro e w4 ⟨b, rfl, hb, hr4, hg4⟩
    have hbb : -1 ≤ b ∧ b ≤ 1001 := by simp at hb; omega
    have HF : Hid (DrawC w g (P + 3) (.returned (.tuple #[.int .i64 a, .int .i64 b])) w4) := ⟨_, _, rfl, HAB.out, hbb, hr4.mono (by omega), grownBy_trans hG3 hg4⟩
    clear hd2 hr3 hG3 hg4 hb hbb hr4
    go_wp2
    go_ret2
    exact HF.out
/-- a table, a degree and two costs are drawn -/
def DrawTDC (w : World) (e : Ending) (w' : World) : Prop :=
  ∃ v xs, ∃ d a b : Int, e = .returned (.tuple #[v, .int .i64 d, .int .i64 a, .int .i64 b]) ∧ OwnI w' w.heap.size v xs ∧ xs.length ≤ 61 ∧ (-1 ≤ d ∧ d ≤ 7) ∧ (-1 ≤ a ∧ a ≤ 1001) ∧ (-1 ≤ b ∧ b ≤ 1001) ∧ Below w.heap.size w w'
theorem c_DrawCheapestPlan (v : Value) (cs : List Int) (w : World) (hv : RdL w v (cs.map (Value.int .u8))) (hl : cs.length ≤ 1099511627776) (hb : ∀ n ∈ cs, (Lit.int .u8 n).wf = true) (hcap : CapOk v) :
    Calls Try.prog 36 #[v] w (DrawTDC w) := by
  go_enter Try.func36, Try.ntmps36
  go_wp2_with fail
  refine (c_l9Open _ cs _ hv hl hb hcap).mono ?_
  rintro e w1 ⟨g, rfl, hr1, hgb, hB1⟩
  have hgw := hr1.lt
  have HGW : Hid (∀ k, (some g : Option Nat) = some k → k < w1.heap.size) := fun k hk => by cases hk; exact hgw
  clear hb hcap hv
  go_wp2_with fail
  refine (c_l5Some g 0 w1 hr1 (by omega)).mono ?_
  rintro e w2 ⟨v2, xs, d, rfl, ho2, hl2, hd2, hr2, hG2⟩
  have HD2 := hidd hd2
  clear hr1 hd2
  go_wp2_with fail
  refine (c_l5Costs g _ w2 hr2 (by omega)).mono ?_
  rintro e w3 ⟨a, b, rfl, ha, hb, hr3, hG3⟩
  have ho3 := ownsRow_kept_new ho2 hG3 HGW.out
  have HF : Hid (DrawTDC w (.returned (.tuple #[v2, .int .i64 d, .int .i64 a, .int .i64 b])) w3) :=
    ⟨_, _, _, _, _, rfl, ownsRow_mono ho3 hB1.size, hl2, HD2.out, ha, hb, hB1.grown (grownBy_trans hG2 hG3) hB1.size (fun k hk => by cases hk; exact hgb)⟩
  clear ho2 ho3 hr2 hr3 hG2 hG3 hB1 ha hb
  go_wp2
  (try simp only [Exit.inBlock, Exit.then])
  refine bodyPost_ret (results_tmp4 rfl _ _ _) rfl ?_
  exact HF.out
theorem c_l5Cost (a b : Int) (w : World) :
    Calls Try.prog 96 #[(.int .i64 (a)), (.int .i64 (b))] w fun e w' => e = .returned (.bool (inB a 0 1000 && inB b 0 1000)) ∧ w = w' := by
  cases h1 : inB a 0 1000
  · go_enter Try.func96, Try.ntmps96
    go_wp2_with (go_at_call 75; refine (c_l1In _ _ _ _).mono ?_; rw [h1]; rintro e w' ⟨rfl, rfl⟩)
    go_ret
    exact ⟨rfl, rfl⟩
  · have hc := c_l1In b 0 1000 w
    cases h2 : inB b 0 1000
    all_goals
      rw [h2] at hc
      go_enter Try.func96, Try.ntmps96
      go_wp2_with (first | (go_at_call 75; refine (c_l1In _ _ _ _).mono ?_; (first | rw [h1] | rw [h2]); rintro e w' ⟨rfl, rfl⟩))
      go_ret
      exact ⟨rfl, rfl⟩
end Go.Proofs.Ytkfejnifbkgihaa
