/- Contracts: a number between two others. -/
import Derived.Test.YtdgnhplaakjlgaaGreatDoorSl
import Derived.WalkKit
import Derived.ProofKit
import Derived.Deep.Light
import Derived.WalkSmall
namespace Go.Proofs.YtdgnhplaakjlgaaGreatDoor
set_option linter.unusedVariables false
open Go.RowKit

def inB (n a b : Int) : Bool := decide (a ≤ n ∧ n ≤ b)
theorem inB_t {n a b : Int} (h1 : a ≤ n) (h2 : n ≤ b) : inB n a b = true := decide_eq_true ⟨h1, h2⟩
theorem inB_f {n a b : Int} (h : ¬ (a ≤ n ∧ n ≤ b)) : inB n a b = false := decide_eq_false h
theorem inB_iff {n a b : Int} : inB n a b = true ↔ a ≤ n ∧ n ≤ b := decide_eq_true_iff
theorem c_l1In (n a b : Int) (w : World) :
    Calls Tryz.prog 29 #[(.int .i64 (n)), (.int .i64 (a)), (.int .i64 (b))] w fun e w' => e = .returned (.bool (inB n a b)) ∧ w = w' := by
  go_enter Tryz.func29, Tryz.ntmps29
  go_wp2
  all_goals (go_ret; refine ⟨ret_bool ?_, rfl⟩; go_light; unfold inB; simp; try omega)
end Go.Proofs.YtdgnhplaakjlgaaGreatDoor
