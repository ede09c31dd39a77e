/-
  No cell of these rows narrows 'for every input' (looked for: loops, veiled, ifaces, maps, wideKeys, modest, calm, conditions, laid).
  DERIVED. THE GIVEN ROWS OF THIS SEAT. 5 by the template 'for every input the law returns true; each argument reads behind the call as it read before'; 0 by the template 'total and deterministic' (their statements: YtihgbebdadpjaaaTotals.lean).
  GIVEN WITH THE SEED: the statements are not yours to turn. If you find one false, say at which input.
  Laid BY PROGRAM, IN A SANDBOX (cutbox-rows.mjs): the forced cells as the released guide's own fill.sh prints them over the translation 5273f16cf608a8aa… (all of the seat's roots in one cut). By AI agents, Wed Nov 11 2026. No macro, syntax, notation, axiom, sorry.
-/
import Derived.Test.YtihgbebdadpjaaaChecked
import GoSem.Claim
import GoSem.ClaimJoined
import GoSem.ClaimMapViews
import Derived.JoinedTies
import Derived.KernelRfl
namespace Go.Proofs.Ytihgbebdadpjaaa
/- THE CELL 'sum', in the pinned program and in every row, IS THE sha256 OF THE DUMP (.gsa) THAT YtihgbebdadpjaaaProg.lean LOADS. Nothing in Lean hashes anything: it is a label: what it is worth is what the hold of that sum in a sandbox is worth. -/
noncomputable def Try.pinned : Pinned := { name := "ytihgbebdadpjaaa", sum := "5273f16cf608a8aaebe3940d1d34554f170cfa09ec68b305ecf5301b1de015ca", checked := Try.checked }
namespace Rows
def none {H : Type} : Left H := { results := [], args := [] }

/-- 'laws.FnExactLinesValid': WHATEVER THE INPUT: true; the input reads as it did. -/
def fnExactLinesValidSpec : ChangeSpec := { name := "fnExactLinesValid", fn := fun _ => fun
  | [d] => { results := [.lit (.bool true)], args := [d] }
  | _ => none }
def fnExactLinesValidRow : OpenClaim := { program := "ytihgbebdadpjaaa", sum := "5273f16cf608a8aaebe3940d1d34554f170cfa09ec68b305ecf5301b1de015ca", func := "loop.example/differenceengine/laws.FnExactLinesValid", spec := "fnExactLinesValid", apart := false }
def FnExactLinesValidSaid : Prop := fnExactLinesValidRow.holds Try.pinned (OpenSpec.ofChange fnExactLinesValidSpec)

/-- ITS FALSE NEIGHBOUR: 'it returns false'. Refute it at one input. -/
def fnExactLinesValidWrong : ChangeSpec := { name := "fnExactLinesValid", fn := fun _ => fun
  | [d] => { results := [.lit (.bool false)], args := [d] }
  | _ => none }
def FnExactLinesValidWrongFalsely : Prop := fnExactLinesValidRow.holds Try.pinned (OpenSpec.ofChange fnExactLinesValidWrong)

/-- 'laws.FnPageSums': WHATEVER THE INPUT: true; the input reads as it did. -/
def fnPageSumsSpec : ChangeSpec := { name := "fnPageSums", fn := fun _ => fun
  | [d] => { results := [.lit (.bool true)], args := [d] }
  | _ => none }
def fnPageSumsRow : OpenClaim := { program := "ytihgbebdadpjaaa", sum := "5273f16cf608a8aaebe3940d1d34554f170cfa09ec68b305ecf5301b1de015ca", func := "loop.example/differenceengine/laws.FnPageSums", spec := "fnPageSums", apart := false }
def FnPageSumsSaid : Prop := fnPageSumsRow.holds Try.pinned (OpenSpec.ofChange fnPageSumsSpec)

/-- ITS FALSE NEIGHBOUR: 'it returns false'. Refute it at one input. -/
def fnPageSumsWrong : ChangeSpec := { name := "fnPageSums", fn := fun _ => fun
  | [d] => { results := [.lit (.bool false)], args := [d] }
  | _ => none }
def FnPageSumsWrongFalsely : Prop := fnPageSumsRow.holds Try.pinned (OpenSpec.ofChange fnPageSumsWrong)

/-- 'laws.FnRoundTable': WHATEVER THE INPUT: true; the input reads as it did. -/
def fnRoundTableSpec : ChangeSpec := { name := "fnRoundTable", fn := fun _ => fun
  | [d] => { results := [.lit (.bool true)], args := [d] }
  | _ => none }
def fnRoundTableRow : OpenClaim := { program := "ytihgbebdadpjaaa", sum := "5273f16cf608a8aaebe3940d1d34554f170cfa09ec68b305ecf5301b1de015ca", func := "loop.example/differenceengine/laws.FnRoundTable", spec := "fnRoundTable", apart := false }
def FnRoundTableSaid : Prop := fnRoundTableRow.holds Try.pinned (OpenSpec.ofChange fnRoundTableSpec)

/-- ITS FALSE NEIGHBOUR: 'it returns false'. Refute it at one input. -/
def fnRoundTableWrong : ChangeSpec := { name := "fnRoundTable", fn := fun _ => fun
  | [d] => { results := [.lit (.bool false)], args := [d] }
  | _ => none }
def FnRoundTableWrongFalsely : Prop := fnRoundTableRow.holds Try.pinned (OpenSpec.ofChange fnRoundTableWrong)

/-- 'laws.FnExactShortenColumn': WHATEVER THE INPUT: true; the input reads as it did. -/
def fnExactShortenColumnSpec : ChangeSpec := { name := "fnExactShortenColumn", fn := fun _ => fun
  | [d] => { results := [.lit (.bool true)], args := [d] }
  | _ => none }
def fnExactShortenColumnRow : OpenClaim := { program := "ytihgbebdadpjaaa", sum := "5273f16cf608a8aaebe3940d1d34554f170cfa09ec68b305ecf5301b1de015ca", func := "loop.example/differenceengine/laws.FnExactShortenColumn", spec := "fnExactShortenColumn", inPlace := ["internal/abi.NoEscape", "internal/bytealg.MakeNoZero"], apart := false }
def FnExactShortenColumnSaid : Prop := fnExactShortenColumnRow.holds Try.pinned (OpenSpec.ofChange fnExactShortenColumnSpec)

/-- ITS FALSE NEIGHBOUR: 'it returns false'. Refute it at one input. -/
def fnExactShortenColumnWrong : ChangeSpec := { name := "fnExactShortenColumn", fn := fun _ => fun
  | [d] => { results := [.lit (.bool false)], args := [d] }
  | _ => none }
def FnExactShortenColumnWrongFalsely : Prop := fnExactShortenColumnRow.holds Try.pinned (OpenSpec.ofChange fnExactShortenColumnWrong)

/-- 'laws.FnExactStereotypeOf': WHATEVER THE INPUT: true; the input reads as it did. -/
def fnExactStereotypeOfSpec : ChangeSpec := { name := "fnExactStereotypeOf", fn := fun _ => fun
  | [d] => { results := [.lit (.bool true)], args := [d] }
  | _ => none }
def fnExactStereotypeOfRow : OpenClaim := { program := "ytihgbebdadpjaaa", sum := "5273f16cf608a8aaebe3940d1d34554f170cfa09ec68b305ecf5301b1de015ca", func := "loop.example/differenceengine/laws.FnExactStereotypeOf", spec := "fnExactStereotypeOf", inPlace := ["internal/abi.NoEscape", "internal/bytealg.MakeNoZero"], apart := false }
def FnExactStereotypeOfSaid : Prop := fnExactStereotypeOfRow.holds Try.pinned (OpenSpec.ofChange fnExactStereotypeOfSpec)

/-- ITS FALSE NEIGHBOUR: 'it returns false'. Refute it at one input. -/
def fnExactStereotypeOfWrong : ChangeSpec := { name := "fnExactStereotypeOf", fn := fun _ => fun
  | [d] => { results := [.lit (.bool false)], args := [d] }
  | _ => none }
def FnExactStereotypeOfWrongFalsely : Prop := fnExactStereotypeOfRow.holds Try.pinned (OpenSpec.ofChange fnExactStereotypeOfWrong)

/- THE SECOND FORM. 'bulk': how many values and letters a reading holds, each counted each time it is reached (what is shared counts as often as it is met; a slice's spare places count too). A statement '..UptoSaid' is the law's where the arguments, and the package variables that the reading takes, are together of bulk at most 1048576: NARROWER than '..Said'. Prove '..Said' where nothing that the law and all that it calls make is longer than what came in: it says more and counts as full. Else prove '..UptoSaid'. A law counts once. -/
mutual
def uptoBulk {H : Type} : DataW H → Nat
  | .lit (.string bytes) => bytes.length + 1
  | .lit _ => 1
  | .nil => 1
  | .ptr d => uptoBulk d + 1
  | .slice elems spare => uptoBulkAll elems + uptoBulkAll spare + 1
  | .agg parts => uptoBulkAll parts + 1
  | .iface _ d => uptoBulk d + 1
  | .map entries => uptoBulkEntries entries + 1
  | .held _ => 1
def uptoBulkAll {H : Type} : List (DataW H) → Nat
  | [] => 0
  | d :: r => uptoBulk d + uptoBulkAll r
def uptoBulkEntries {H : Type} : List (Lit × DataW H) → Nat
  | [] => 0
  | x :: r => uptoBulkEntry x + uptoBulkEntries r
def uptoBulkEntry {H : Type} : Lit × DataW H → Nat
  | (.string bytes, d) => bytes.length + uptoBulk d + 1
  | (_, d) => uptoBulk d + 1
 end
def uptoSmall : (H : Type) → List (DataW H) → Bool := fun _ ds => decide (uptoBulkAll ds ≤ 1048576)
def OpenSpec.upto (s : _root_.Go.ChangeSpec) : _root_.Go.OpenSpec := { _root_.Go.OpenSpec.ofChange s with cond := some uptoSmall }

/-- 'laws.FnExactLinesValid', WHERE WHAT IT READS IS OF BULK AT MOST 1048576: true; the input reads as it did. -/
def fnExactLinesValidUptoRow : OpenClaim := { program := "ytihgbebdadpjaaa", sum := "5273f16cf608a8aaebe3940d1d34554f170cfa09ec68b305ecf5301b1de015ca", func := "loop.example/differenceengine/laws.FnExactLinesValid", spec := "fnExactLinesValid", apart := false, narrowed := true }
def FnExactLinesValidUptoSaid : Prop := fnExactLinesValidUptoRow.holds Try.pinned (OpenSpec.upto fnExactLinesValidSpec)

/-- 'laws.FnPageSums', WHERE WHAT IT READS IS OF BULK AT MOST 1048576: true; the input reads as it did. -/
def fnPageSumsUptoRow : OpenClaim := { program := "ytihgbebdadpjaaa", sum := "5273f16cf608a8aaebe3940d1d34554f170cfa09ec68b305ecf5301b1de015ca", func := "loop.example/differenceengine/laws.FnPageSums", spec := "fnPageSums", apart := false, narrowed := true }
def FnPageSumsUptoSaid : Prop := fnPageSumsUptoRow.holds Try.pinned (OpenSpec.upto fnPageSumsSpec)

/-- 'laws.FnRoundTable', WHERE WHAT IT READS IS OF BULK AT MOST 1048576: true; the input reads as it did. -/
def fnRoundTableUptoRow : OpenClaim := { program := "ytihgbebdadpjaaa", sum := "5273f16cf608a8aaebe3940d1d34554f170cfa09ec68b305ecf5301b1de015ca", func := "loop.example/differenceengine/laws.FnRoundTable", spec := "fnRoundTable", apart := false, narrowed := true }
def FnRoundTableUptoSaid : Prop := fnRoundTableUptoRow.holds Try.pinned (OpenSpec.upto fnRoundTableSpec)

/-- 'laws.FnExactShortenColumn', WHERE WHAT IT READS IS OF BULK AT MOST 1048576: true; the input reads as it did. -/
def fnExactShortenColumnUptoRow : OpenClaim := { program := "ytihgbebdadpjaaa", sum := "5273f16cf608a8aaebe3940d1d34554f170cfa09ec68b305ecf5301b1de015ca", func := "loop.example/differenceengine/laws.FnExactShortenColumn", spec := "fnExactShortenColumn", inPlace := ["internal/abi.NoEscape", "internal/bytealg.MakeNoZero"], apart := false, narrowed := true }
def FnExactShortenColumnUptoSaid : Prop := fnExactShortenColumnUptoRow.holds Try.pinned (OpenSpec.upto fnExactShortenColumnSpec)

/-- 'laws.FnExactStereotypeOf', WHERE WHAT IT READS IS OF BULK AT MOST 1048576: true; the input reads as it did. -/
def fnExactStereotypeOfUptoRow : OpenClaim := { program := "ytihgbebdadpjaaa", sum := "5273f16cf608a8aaebe3940d1d34554f170cfa09ec68b305ecf5301b1de015ca", func := "loop.example/differenceengine/laws.FnExactStereotypeOf", spec := "fnExactStereotypeOf", inPlace := ["internal/abi.NoEscape", "internal/bytealg.MakeNoZero"], apart := false, narrowed := true }
def FnExactStereotypeOfUptoSaid : Prop := fnExactStereotypeOfUptoRow.holds Try.pinned (OpenSpec.upto fnExactStereotypeOfSpec)

end Rows
end Go.Proofs.Ytihgbebdadpjaaa
