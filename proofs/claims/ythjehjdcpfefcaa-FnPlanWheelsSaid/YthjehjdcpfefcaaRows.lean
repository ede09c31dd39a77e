/-
  No cell of these rows narrows 'for every input' (looked for: loops, veiled, ifaces, maps, wideKeys, modest, calm, conditions, laid).
  DERIVED. THE GIVEN ROWS OF THIS SEAT. 3 by the template 'for every input the law returns true; each argument reads behind the call as it read before'; 0 by the template 'total and deterministic' (their statements: YthjehjdcpfefcaaTotals.lean).
  GIVEN WITH THE SEED: the statements are not yours to turn. If you find one false, say at which input.
  Laid BY PROGRAM, IN A SANDBOX (cutbox-rows.mjs): the forced cells as the released guide's own fill.sh prints them over the translation 01063b741980cdac… (all of the seat's roots in one cut). By AI agents, Wed Nov 11 2026. No macro, syntax, notation, axiom, sorry.
-/
import Derived.Test.YthjehjdcpfefcaaChecked
import GoSem.Claim
import GoSem.ClaimJoined
import GoSem.ClaimMapViews
import Derived.JoinedTies
import Derived.KernelRfl
namespace Go.Proofs.Ythjehjdcpfefcaa
/- THE CELL 'sum', in the pinned program and in every row, IS THE sha256 OF THE DUMP (.gsa) THAT YthjehjdcpfefcaaProg.lean LOADS. Nothing in Lean hashes anything: it is a label: what it is worth is what the hold of that sum in a sandbox is worth. -/
noncomputable def Try.pinned : Pinned := { name := "ythjehjdcpfefcaa", sum := "01063b741980cdac3dcddfa5355769f305ccdcc0e982886bfa91fd85b2e87f5f", checked := Try.checked }
namespace Rows
def none {H : Type} : Left H := { results := [], args := [] }

/-- 'laws.FnExactPlanWheels': WHATEVER THE INPUT: true; the input reads as it did. -/
def fnExactPlanWheelsSpec : ChangeSpec := { name := "fnExactPlanWheels", fn := fun _ => fun
  | [d1, d2] => { results := [.lit (.bool true)], args := [d1, d2] }
  | _ => none }
def fnExactPlanWheelsRow : OpenClaim := { program := "ythjehjdcpfefcaa", sum := "01063b741980cdac3dcddfa5355769f305ccdcc0e982886bfa91fd85b2e87f5f", func := "loop.example/differenceengine/laws.FnExactPlanWheels", spec := "fnExactPlanWheels", apart := false }
def FnExactPlanWheelsSaid : Prop := fnExactPlanWheelsRow.holds Try.pinned (OpenSpec.ofChange fnExactPlanWheelsSpec)

/-- ITS FALSE NEIGHBOUR: 'it returns false'. Refute it at one input. -/
def fnExactPlanWheelsWrong : ChangeSpec := { name := "fnExactPlanWheels", fn := fun _ => fun
  | [d1, d2] => { results := [.lit (.bool false)], args := [d1, d2] }
  | _ => none }
def FnExactPlanWheelsWrongFalsely : Prop := fnExactPlanWheelsRow.holds Try.pinned (OpenSpec.ofChange fnExactPlanWheelsWrong)

/-- 'laws.FnRunPlan': WHATEVER THE INPUT: true; the input reads as it did. -/
def fnRunPlanSpec : ChangeSpec := { name := "fnRunPlan", fn := fun _ => fun
  | [d] => { results := [.lit (.bool true)], args := [d] }
  | _ => none }
def fnRunPlanRow : OpenClaim := { program := "ythjehjdcpfefcaa", sum := "01063b741980cdac3dcddfa5355769f305ccdcc0e982886bfa91fd85b2e87f5f", func := "loop.example/differenceengine/laws.FnRunPlan", spec := "fnRunPlan", unfollowed := true, recurses := true, apart := false }
def FnRunPlanSaid : Prop := fnRunPlanRow.holds Try.pinned (OpenSpec.ofChange fnRunPlanSpec)

/-- ITS FALSE NEIGHBOUR: 'it returns false'. Refute it at one input. -/
def fnRunPlanWrong : ChangeSpec := { name := "fnRunPlan", fn := fun _ => fun
  | [d] => { results := [.lit (.bool false)], args := [d] }
  | _ => none }
def FnRunPlanWrongFalsely : Prop := fnRunPlanRow.holds Try.pinned (OpenSpec.ofChange fnRunPlanWrong)

/-- 'laws.FnPlanWheels': WHATEVER THE INPUT: true; the input reads as it did. -/
def fnPlanWheelsSpec : ChangeSpec := { name := "fnPlanWheels", fn := fun _ => fun
  | [d1, d2] => { results := [.lit (.bool true)], args := [d1, d2] }
  | _ => none }
def fnPlanWheelsRow : OpenClaim := { program := "ythjehjdcpfefcaa", sum := "01063b741980cdac3dcddfa5355769f305ccdcc0e982886bfa91fd85b2e87f5f", func := "loop.example/differenceengine/laws.FnPlanWheels", spec := "fnPlanWheels", unfollowed := true, recurses := true, apart := false }
def FnPlanWheelsSaid : Prop := fnPlanWheelsRow.holds Try.pinned (OpenSpec.ofChange fnPlanWheelsSpec)

/-- ITS FALSE NEIGHBOUR: 'it returns false'. Refute it at one input. -/
def fnPlanWheelsWrong : ChangeSpec := { name := "fnPlanWheels", fn := fun _ => fun
  | [d1, d2] => { results := [.lit (.bool false)], args := [d1, d2] }
  | _ => none }
def FnPlanWheelsWrongFalsely : Prop := fnPlanWheelsRow.holds Try.pinned (OpenSpec.ofChange fnPlanWheelsWrong)

/- THE SECOND FORM. 'bulk': how many values and letters a reading holds, each counted each time it is reached (what is shared counts as often as it is met; a slice's spare places count too). A statement '..UptoSaid' is the law's where the arguments, and the package variables that the reading takes, are together of bulk at most 1048576: NARROWER than '..Said'. Prove '..Said' where nothing that the law and all that it calls make is longer than what came in: it says more and counts as full. Else prove '..UptoSaid'. A law counts once. -/
mutual
def uptoBulk {H : Type} : DataW H → Nat
  | .lit (.string bytes) => bytes.length + 1
  | .lit _ => 1
  | .nil => 1
  | .ptr d => uptoBulk d + 1
  | .slice elems spare => uptoBulkAll elems + uptoBulkAll spare + 1
  | .agg parts => uptoBulkAll parts + 1
  | .iface _ d => uptoBulk d + 1
  | .map entries => uptoBulkEntries entries + 1
  | .held _ => 1
def uptoBulkAll {H : Type} : List (DataW H) → Nat
  | [] => 0
  | d :: r => uptoBulk d + uptoBulkAll r
def uptoBulkEntries {H : Type} : List (Lit × DataW H) → Nat
  | [] => 0
  | x :: r => uptoBulkEntry x + uptoBulkEntries r
def uptoBulkEntry {H : Type} : Lit × DataW H → Nat
  | (.string bytes, d) => bytes.length + uptoBulk d + 1
  | (_, d) => uptoBulk d + 1
 end
def uptoSmall : (H : Type) → List (DataW H) → Bool := fun _ ds => decide (uptoBulkAll ds ≤ 1048576)
def OpenSpec.upto (s : _root_.Go.ChangeSpec) : _root_.Go.OpenSpec := { _root_.Go.OpenSpec.ofChange s with cond := some uptoSmall }

/-- 'laws.FnExactPlanWheels', WHERE WHAT IT READS IS OF BULK AT MOST 1048576: true; the input reads as it did. -/
def fnExactPlanWheelsUptoRow : OpenClaim := { program := "ythjehjdcpfefcaa", sum := "01063b741980cdac3dcddfa5355769f305ccdcc0e982886bfa91fd85b2e87f5f", func := "loop.example/differenceengine/laws.FnExactPlanWheels", spec := "fnExactPlanWheels", apart := false, narrowed := true }
def FnExactPlanWheelsUptoSaid : Prop := fnExactPlanWheelsUptoRow.holds Try.pinned (OpenSpec.upto fnExactPlanWheelsSpec)

/-- 'laws.FnRunPlan', WHERE WHAT IT READS IS OF BULK AT MOST 1048576: true; the input reads as it did. -/
def fnRunPlanUptoRow : OpenClaim := { program := "ythjehjdcpfefcaa", sum := "01063b741980cdac3dcddfa5355769f305ccdcc0e982886bfa91fd85b2e87f5f", func := "loop.example/differenceengine/laws.FnRunPlan", spec := "fnRunPlan", unfollowed := true, recurses := true, apart := false, narrowed := true }
def FnRunPlanUptoSaid : Prop := fnRunPlanUptoRow.holds Try.pinned (OpenSpec.upto fnRunPlanSpec)

/-- 'laws.FnPlanWheels', WHERE WHAT IT READS IS OF BULK AT MOST 1048576: true; the input reads as it did. -/
def fnPlanWheelsUptoRow : OpenClaim := { program := "ythjehjdcpfefcaa", sum := "01063b741980cdac3dcddfa5355769f305ccdcc0e982886bfa91fd85b2e87f5f", func := "loop.example/differenceengine/laws.FnPlanWheels", spec := "fnPlanWheels", unfollowed := true, recurses := true, apart := false, narrowed := true }
def FnPlanWheelsUptoSaid : Prop := fnPlanWheelsUptoRow.holds Try.pinned (OpenSpec.upto fnPlanWheelsSpec)

end Rows
end Go.Proofs.Ythjehjdcpfefcaa
