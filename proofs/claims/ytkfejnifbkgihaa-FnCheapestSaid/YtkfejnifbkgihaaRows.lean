/-
  No cell of these rows narrows 'for every input' (looked for: loops, veiled, ifaces, maps, wideKeys, modest, calm, conditions, laid).
  DERIVED. THE GIVEN ROWS OF THIS SEAT. 6 by the template 'for every input the law returns true; each argument reads behind the call as it read before'; 0 by the template 'total and deterministic' (their statements: YtkfejnifbkgihaaTotals.lean).
  GIVEN WITH THE SEED: the statements are not yours to turn. If you find one false, say at which input.
  Laid BY PROGRAM, IN A SANDBOX (cutbox-rows.mjs): the forced cells as the released guide's own fill.sh prints them over the translation beade27ee8a5ace8… (all of the seat's roots in one cut). By AI agents, Wed Nov 11 2026. No macro, syntax, notation, axiom, sorry.
-/
import Derived.Test.YtkfejnifbkgihaaChecked
import GoSem.Claim
import GoSem.ClaimJoined
import GoSem.ClaimMapViews
import Derived.JoinedTies
import Derived.KernelRfl
namespace Go.Proofs.Ytkfejnifbkgihaa
/- THE CELL 'sum', in the pinned program and in every row, IS THE sha256 OF THE DUMP (.gsa) THAT YtkfejnifbkgihaaProg.lean LOADS. Nothing in Lean hashes anything: it is a label: what it is worth is what the hold of that sum in a sandbox is worth. -/
noncomputable def Try.pinned : Pinned := { name := "ytkfejnifbkgihaa", sum := "beade27ee8a5ace84f9717d7e92566f350f7b0cfec3b8fb36bb48b353fe499bd", checked := Try.checked }
namespace Rows
def none {H : Type} : Left H := { results := [], args := [] }

/-- 'laws.FnPlanValues': WHATEVER THE INPUT: true; the input reads as it did. -/
def fnPlanValuesSpec : ChangeSpec := { name := "fnPlanValues", fn := fun _ => fun
  | [d] => { results := [.lit (.bool true)], args := [d] }
  | _ => none }
def fnPlanValuesRow : OpenClaim := { program := "ytkfejnifbkgihaa", sum := "beade27ee8a5ace84f9717d7e92566f350f7b0cfec3b8fb36bb48b353fe499bd", func := "loop.example/differenceengine/laws.FnPlanValues", spec := "fnPlanValues", apart := false }
def FnPlanValuesSaid : Prop := fnPlanValuesRow.holds Try.pinned (OpenSpec.ofChange fnPlanValuesSpec)

/-- ITS FALSE NEIGHBOUR: 'it returns false'. Refute it at one input. -/
def fnPlanValuesWrong : ChangeSpec := { name := "fnPlanValues", fn := fun _ => fun
  | [d] => { results := [.lit (.bool false)], args := [d] }
  | _ => none }
def FnPlanValuesWrongFalsely : Prop := fnPlanValuesRow.holds Try.pinned (OpenSpec.ofChange fnPlanValuesWrong)

/-- 'laws.FnExactJoinSegments': WHATEVER THE INPUT: true; the input reads as it did. -/
def fnExactJoinSegmentsSpec : ChangeSpec := { name := "fnExactJoinSegments", fn := fun _ => fun
  | [d1, d2, d3] => { results := [.lit (.bool true)], args := [d1, d2, d3] }
  | _ => none }
def fnExactJoinSegmentsRow : OpenClaim := { program := "ytkfejnifbkgihaa", sum := "beade27ee8a5ace84f9717d7e92566f350f7b0cfec3b8fb36bb48b353fe499bd", func := "loop.example/differenceengine/laws.FnExactJoinSegments", spec := "fnExactJoinSegments", apart := false }
def FnExactJoinSegmentsSaid : Prop := fnExactJoinSegmentsRow.holds Try.pinned (OpenSpec.ofChange fnExactJoinSegmentsSpec)

/-- ITS FALSE NEIGHBOUR: 'it returns false'. Refute it at one input. -/
def fnExactJoinSegmentsWrong : ChangeSpec := { name := "fnExactJoinSegments", fn := fun _ => fun
  | [d1, d2, d3] => { results := [.lit (.bool false)], args := [d1, d2, d3] }
  | _ => none }
def FnExactJoinSegmentsWrongFalsely : Prop := fnExactJoinSegmentsRow.holds Try.pinned (OpenSpec.ofChange fnExactJoinSegmentsWrong)

/-- 'laws.FnGreedyValues': WHATEVER THE INPUT: true; the input reads as it did. -/
def fnGreedyValuesSpec : ChangeSpec := { name := "fnGreedyValues", fn := fun _ => fun
  | [d] => { results := [.lit (.bool true)], args := [d] }
  | _ => none }
def fnGreedyValuesRow : OpenClaim := { program := "ytkfejnifbkgihaa", sum := "beade27ee8a5ace84f9717d7e92566f350f7b0cfec3b8fb36bb48b353fe499bd", func := "loop.example/differenceengine/laws.FnGreedyValues", spec := "fnGreedyValues", apart := false }
def FnGreedyValuesSaid : Prop := fnGreedyValuesRow.holds Try.pinned (OpenSpec.ofChange fnGreedyValuesSpec)

/-- ITS FALSE NEIGHBOUR: 'it returns false'. Refute it at one input. -/
def fnGreedyValuesWrong : ChangeSpec := { name := "fnGreedyValues", fn := fun _ => fun
  | [d] => { results := [.lit (.bool false)], args := [d] }
  | _ => none }
def FnGreedyValuesWrongFalsely : Prop := fnGreedyValuesRow.holds Try.pinned (OpenSpec.ofChange fnGreedyValuesWrong)

/-- 'laws.FnSplitJoin': WHATEVER THE INPUT: true; the input reads as it did. -/
def fnSplitJoinSpec : ChangeSpec := { name := "fnSplitJoin", fn := fun _ => fun
  | [d] => { results := [.lit (.bool true)], args := [d] }
  | _ => none }
def fnSplitJoinRow : OpenClaim := { program := "ytkfejnifbkgihaa", sum := "beade27ee8a5ace84f9717d7e92566f350f7b0cfec3b8fb36bb48b353fe499bd", func := "loop.example/differenceengine/laws.FnSplitJoin", spec := "fnSplitJoin", apart := false }
def FnSplitJoinSaid : Prop := fnSplitJoinRow.holds Try.pinned (OpenSpec.ofChange fnSplitJoinSpec)

/-- ITS FALSE NEIGHBOUR: 'it returns false'. Refute it at one input. -/
def fnSplitJoinWrong : ChangeSpec := { name := "fnSplitJoin", fn := fun _ => fun
  | [d] => { results := [.lit (.bool false)], args := [d] }
  | _ => none }
def FnSplitJoinWrongFalsely : Prop := fnSplitJoinRow.holds Try.pinned (OpenSpec.ofChange fnSplitJoinWrong)

/-- 'laws.FnJoinTrue': WHATEVER THE INPUT: true; the input reads as it did. -/
def fnJoinTrueSpec : ChangeSpec := { name := "fnJoinTrue", fn := fun _ => fun
  | [d] => { results := [.lit (.bool true)], args := [d] }
  | _ => none }
def fnJoinTrueRow : OpenClaim := { program := "ytkfejnifbkgihaa", sum := "beade27ee8a5ace84f9717d7e92566f350f7b0cfec3b8fb36bb48b353fe499bd", func := "loop.example/differenceengine/laws.FnJoinTrue", spec := "fnJoinTrue", apart := false }
def FnJoinTrueSaid : Prop := fnJoinTrueRow.holds Try.pinned (OpenSpec.ofChange fnJoinTrueSpec)

/-- ITS FALSE NEIGHBOUR: 'it returns false'. Refute it at one input. -/
def fnJoinTrueWrong : ChangeSpec := { name := "fnJoinTrue", fn := fun _ => fun
  | [d] => { results := [.lit (.bool false)], args := [d] }
  | _ => none }
def FnJoinTrueWrongFalsely : Prop := fnJoinTrueRow.holds Try.pinned (OpenSpec.ofChange fnJoinTrueWrong)

/-- 'laws.FnCheapest': WHATEVER THE INPUT: true; the input reads as it did. -/
def fnCheapestSpec : ChangeSpec := { name := "fnCheapest", fn := fun _ => fun
  | [d1, d2] => { results := [.lit (.bool true)], args := [d1, d2] }
  | _ => none }
def fnCheapestRow : OpenClaim := { program := "ytkfejnifbkgihaa", sum := "beade27ee8a5ace84f9717d7e92566f350f7b0cfec3b8fb36bb48b353fe499bd", func := "loop.example/differenceengine/laws.FnCheapest", spec := "fnCheapest", apart := false }
def FnCheapestSaid : Prop := fnCheapestRow.holds Try.pinned (OpenSpec.ofChange fnCheapestSpec)

/-- ITS FALSE NEIGHBOUR: 'it returns false'. Refute it at one input. -/
def fnCheapestWrong : ChangeSpec := { name := "fnCheapest", fn := fun _ => fun
  | [d1, d2] => { results := [.lit (.bool false)], args := [d1, d2] }
  | _ => none }
def FnCheapestWrongFalsely : Prop := fnCheapestRow.holds Try.pinned (OpenSpec.ofChange fnCheapestWrong)

/- THE SECOND FORM. 'bulk': how many values and letters a reading holds, each counted each time it is reached (what is shared counts as often as it is met; a slice's spare places count too). A statement '..UptoSaid' is the law's where the arguments, and the package variables that the reading takes, are together of bulk at most 1048576: NARROWER than '..Said'. Prove '..Said' where nothing that the law and all that it calls make is longer than what came in: it says more and counts as full. Else prove '..UptoSaid'. A law counts once. -/
mutual
def uptoBulk {H : Type} : DataW H → Nat
  | .lit (.string bytes) => bytes.length + 1
  | .lit _ => 1
  | .nil => 1
  | .ptr d => uptoBulk d + 1
  | .slice elems spare => uptoBulkAll elems + uptoBulkAll spare + 1
  | .agg parts => uptoBulkAll parts + 1
  | .iface _ d => uptoBulk d + 1
  | .map entries => uptoBulkEntries entries + 1
  | .held _ => 1
def uptoBulkAll {H : Type} : List (DataW H) → Nat
  | [] => 0
  | d :: r => uptoBulk d + uptoBulkAll r
def uptoBulkEntries {H : Type} : List (Lit × DataW H) → Nat
  | [] => 0
  | x :: r => uptoBulkEntry x + uptoBulkEntries r
def uptoBulkEntry {H : Type} : Lit × DataW H → Nat
  | (.string bytes, d) => bytes.length + uptoBulk d + 1
  | (_, d) => uptoBulk d + 1
 end
def uptoSmall : (H : Type) → List (DataW H) → Bool := fun _ ds => decide (uptoBulkAll ds ≤ 1048576)
def OpenSpec.upto (s : _root_.Go.ChangeSpec) : _root_.Go.OpenSpec := { _root_.Go.OpenSpec.ofChange s with cond := some uptoSmall }

/-- 'laws.FnPlanValues', WHERE WHAT IT READS IS OF BULK AT MOST 1048576: true; the input reads as it did. -/
def fnPlanValuesUptoRow : OpenClaim := { program := "ytkfejnifbkgihaa", sum := "beade27ee8a5ace84f9717d7e92566f350f7b0cfec3b8fb36bb48b353fe499bd", func := "loop.example/differenceengine/laws.FnPlanValues", spec := "fnPlanValues", apart := false, narrowed := true }
def FnPlanValuesUptoSaid : Prop := fnPlanValuesUptoRow.holds Try.pinned (OpenSpec.upto fnPlanValuesSpec)

/-- 'laws.FnExactJoinSegments', WHERE WHAT IT READS IS OF BULK AT MOST 1048576: true; the input reads as it did. -/
def fnExactJoinSegmentsUptoRow : OpenClaim := { program := "ytkfejnifbkgihaa", sum := "beade27ee8a5ace84f9717d7e92566f350f7b0cfec3b8fb36bb48b353fe499bd", func := "loop.example/differenceengine/laws.FnExactJoinSegments", spec := "fnExactJoinSegments", apart := false, narrowed := true }
def FnExactJoinSegmentsUptoSaid : Prop := fnExactJoinSegmentsUptoRow.holds Try.pinned (OpenSpec.upto fnExactJoinSegmentsSpec)

/-- 'laws.FnGreedyValues', WHERE WHAT IT READS IS OF BULK AT MOST 1048576: true; the input reads as it did. -/
def fnGreedyValuesUptoRow : OpenClaim := { program := "ytkfejnifbkgihaa", sum := "beade27ee8a5ace84f9717d7e92566f350f7b0cfec3b8fb36bb48b353fe499bd", func := "loop.example/differenceengine/laws.FnGreedyValues", spec := "fnGreedyValues", apart := false, narrowed := true }
def FnGreedyValuesUptoSaid : Prop := fnGreedyValuesUptoRow.holds Try.pinned (OpenSpec.upto fnGreedyValuesSpec)

/-- 'laws.FnSplitJoin', WHERE WHAT IT READS IS OF BULK AT MOST 1048576: true; the input reads as it did. -/
def fnSplitJoinUptoRow : OpenClaim := { program := "ytkfejnifbkgihaa", sum := "beade27ee8a5ace84f9717d7e92566f350f7b0cfec3b8fb36bb48b353fe499bd", func := "loop.example/differenceengine/laws.FnSplitJoin", spec := "fnSplitJoin", apart := false, narrowed := true }
def FnSplitJoinUptoSaid : Prop := fnSplitJoinUptoRow.holds Try.pinned (OpenSpec.upto fnSplitJoinSpec)

/-- 'laws.FnJoinTrue', WHERE WHAT IT READS IS OF BULK AT MOST 1048576: true; the input reads as it did. -/
def fnJoinTrueUptoRow : OpenClaim := { program := "ytkfejnifbkgihaa", sum := "beade27ee8a5ace84f9717d7e92566f350f7b0cfec3b8fb36bb48b353fe499bd", func := "loop.example/differenceengine/laws.FnJoinTrue", spec := "fnJoinTrue", apart := false, narrowed := true }
def FnJoinTrueUptoSaid : Prop := fnJoinTrueUptoRow.holds Try.pinned (OpenSpec.upto fnJoinTrueSpec)

/-- 'laws.FnCheapest', WHERE WHAT IT READS IS OF BULK AT MOST 1048576: true; the input reads as it did. -/
def fnCheapestUptoRow : OpenClaim := { program := "ytkfejnifbkgihaa", sum := "beade27ee8a5ace84f9717d7e92566f350f7b0cfec3b8fb36bb48b353fe499bd", func := "loop.example/differenceengine/laws.FnCheapest", spec := "fnCheapest", apart := false, narrowed := true }
def FnCheapestUptoSaid : Prop := fnCheapestUptoRow.holds Try.pinned (OpenSpec.upto fnCheapestSpec)

end Rows
end Go.Proofs.Ytkfejnifbkgihaa
