/-
  No cell of these rows narrows 'for every input' (looked for: loops, veiled, ifaces, maps, wideKeys, modest, calm, conditions, laid).
  DERIVED. THE GIVEN ROWS OF THIS SEAT. 16 by the template 'for every input the law returns true; each argument reads behind the call as it read before'; 0 by the template 'total and deterministic' (their statements: YtjlehpoicplmpaaTotals.lean).
  GIVEN WITH THE SEED: the statements are not yours to turn. If you find one false, say at which input.
  Laid BY PROGRAM, IN A SANDBOX (cutbox-rows.mjs): the forced cells as the released guide's own fill.sh prints them over the translation 0ef31dac00a1f6e4… (all of the seat's roots in one cut). By AI agents, Wed Nov 11 2026. No macro, syntax, notation, axiom, sorry.
-/
import Derived.Test.YtjlehpoicplmpaaChecked
import GoSem.Claim
import GoSem.ClaimJoined
import GoSem.ClaimMapViews
import Derived.JoinedTies
import Derived.KernelRfl
namespace Go.Proofs.Ytjlehpoicplmpaa
/- THE CELL 'sum', in the pinned program and in every row, IS THE sha256 OF THE DUMP (.gsa) THAT YtjlehpoicplmpaaProg.lean LOADS. Nothing in Lean hashes anything: it is a label: what it is worth is what the hold of that sum in a sandbox is worth. -/
noncomputable def Try.pinned : Pinned := { name := "ytjlehpoicplmpaa", sum := "0ef31dac00a1f6e4cb0e758112cf407e21e9343001b543d3fb5b4fab68e8863c", checked := Try.checked }
namespace Rows
def none {H : Type} : Left H := { results := [], args := [] }

/-- 'laws.FnExactDealTable': WHATEVER THE INPUT: true; the input reads as it did. -/
def fnExactDealTableSpec : ChangeSpec := { name := "fnExactDealTable", fn := fun _ => fun
  | [d] => { results := [.lit (.bool true)], args := [d] }
  | _ => none }
def fnExactDealTableRow : OpenClaim := { program := "ytjlehpoicplmpaa", sum := "0ef31dac00a1f6e4cb0e758112cf407e21e9343001b543d3fb5b4fab68e8863c", func := "loop.example/differenceengine/laws.FnExactDealTable", spec := "fnExactDealTable", apart := false }
def FnExactDealTableSaid : Prop := fnExactDealTableRow.holds Try.pinned (OpenSpec.ofChange fnExactDealTableSpec)

/-- ITS FALSE NEIGHBOUR: 'it returns false'. Refute it at one input. -/
def fnExactDealTableWrong : ChangeSpec := { name := "fnExactDealTable", fn := fun _ => fun
  | [d] => { results := [.lit (.bool false)], args := [d] }
  | _ => none }
def FnExactDealTableWrongFalsely : Prop := fnExactDealTableRow.holds Try.pinned (OpenSpec.ofChange fnExactDealTableWrong)

/-- 'laws.FnExactInterleave': WHATEVER THE INPUT: true; the input reads as it did. -/
def fnExactInterleaveSpec : ChangeSpec := { name := "fnExactInterleave", fn := fun _ => fun
  | [d1, d2] => { results := [.lit (.bool true)], args := [d1, d2] }
  | _ => none }
def fnExactInterleaveRow : OpenClaim := { program := "ytjlehpoicplmpaa", sum := "0ef31dac00a1f6e4cb0e758112cf407e21e9343001b543d3fb5b4fab68e8863c", func := "loop.example/differenceengine/laws.FnExactInterleave", spec := "fnExactInterleave", apart := false }
def FnExactInterleaveSaid : Prop := fnExactInterleaveRow.holds Try.pinned (OpenSpec.ofChange fnExactInterleaveSpec)

/-- ITS FALSE NEIGHBOUR: 'it returns false'. Refute it at one input. -/
def fnExactInterleaveWrong : ChangeSpec := { name := "fnExactInterleave", fn := fun _ => fun
  | [d1, d2] => { results := [.lit (.bool false)], args := [d1, d2] }
  | _ => none }
def FnExactInterleaveWrongFalsely : Prop := fnExactInterleaveRow.holds Try.pinned (OpenSpec.ofChange fnExactInterleaveWrong)

/-- 'laws.FnExactLinesValid': WHATEVER THE INPUT: true; the input reads as it did. -/
def fnExactLinesValidSpec : ChangeSpec := { name := "fnExactLinesValid", fn := fun _ => fun
  | [d] => { results := [.lit (.bool true)], args := [d] }
  | _ => none }
def fnExactLinesValidRow : OpenClaim := { program := "ytjlehpoicplmpaa", sum := "0ef31dac00a1f6e4cb0e758112cf407e21e9343001b543d3fb5b4fab68e8863c", func := "loop.example/differenceengine/laws.FnExactLinesValid", spec := "fnExactLinesValid", apart := false }
def FnExactLinesValidSaid : Prop := fnExactLinesValidRow.holds Try.pinned (OpenSpec.ofChange fnExactLinesValidSpec)

/-- ITS FALSE NEIGHBOUR: 'it returns false'. Refute it at one input. -/
def fnExactLinesValidWrong : ChangeSpec := { name := "fnExactLinesValid", fn := fun _ => fun
  | [d] => { results := [.lit (.bool false)], args := [d] }
  | _ => none }
def FnExactLinesValidWrongFalsely : Prop := fnExactLinesValidRow.holds Try.pinned (OpenSpec.ofChange fnExactLinesValidWrong)

/-- 'laws.FnExactRoundEntry': WHATEVER THE INPUT: true; the input reads as it did. -/
def fnExactRoundEntrySpec : ChangeSpec := { name := "fnExactRoundEntry", fn := fun _ => fun
  | [d1, d2, d3] => { results := [.lit (.bool true)], args := [d1, d2, d3] }
  | _ => none }
def fnExactRoundEntryRow : OpenClaim := { program := "ytjlehpoicplmpaa", sum := "0ef31dac00a1f6e4cb0e758112cf407e21e9343001b543d3fb5b4fab68e8863c", func := "loop.example/differenceengine/laws.FnExactRoundEntry", spec := "fnExactRoundEntry", apart := false }
def FnExactRoundEntrySaid : Prop := fnExactRoundEntryRow.holds Try.pinned (OpenSpec.ofChange fnExactRoundEntrySpec)

/-- ITS FALSE NEIGHBOUR: 'it returns false'. Refute it at one input. -/
def fnExactRoundEntryWrong : ChangeSpec := { name := "fnExactRoundEntry", fn := fun _ => fun
  | [d1, d2, d3] => { results := [.lit (.bool false)], args := [d1, d2, d3] }
  | _ => none }
def FnExactRoundEntryWrongFalsely : Prop := fnExactRoundEntryRow.holds Try.pinned (OpenSpec.ofChange fnExactRoundEntryWrong)

/-- 'laws.FnIndexOfPlace': WHATEVER THE INPUT: true; the input reads as it did. -/
def fnIndexOfPlaceSpec : ChangeSpec := { name := "fnIndexOfPlace", fn := fun _ => fun
  | [d] => { results := [.lit (.bool true)], args := [d] }
  | _ => none }
def fnIndexOfPlaceRow : OpenClaim := { program := "ytjlehpoicplmpaa", sum := "0ef31dac00a1f6e4cb0e758112cf407e21e9343001b543d3fb5b4fab68e8863c", func := "loop.example/differenceengine/laws.FnIndexOfPlace", spec := "fnIndexOfPlace", apart := false }
def FnIndexOfPlaceSaid : Prop := fnIndexOfPlaceRow.holds Try.pinned (OpenSpec.ofChange fnIndexOfPlaceSpec)

/-- ITS FALSE NEIGHBOUR: 'it returns false'. Refute it at one input. -/
def fnIndexOfPlaceWrong : ChangeSpec := { name := "fnIndexOfPlace", fn := fun _ => fun
  | [d] => { results := [.lit (.bool false)], args := [d] }
  | _ => none }
def FnIndexOfPlaceWrongFalsely : Prop := fnIndexOfPlaceRow.holds Try.pinned (OpenSpec.ofChange fnIndexOfPlaceWrong)

/-- 'laws.FnPlace': WHATEVER THE INPUT: true; the input reads as it did. -/
def fnPlaceSpec : ChangeSpec := { name := "fnPlace", fn := fun _ => fun
  | [d] => { results := [.lit (.bool true)], args := [d] }
  | _ => none }
def fnPlaceRow : OpenClaim := { program := "ytjlehpoicplmpaa", sum := "0ef31dac00a1f6e4cb0e758112cf407e21e9343001b543d3fb5b4fab68e8863c", func := "loop.example/differenceengine/laws.FnPlace", spec := "fnPlace", apart := false }
def FnPlaceSaid : Prop := fnPlaceRow.holds Try.pinned (OpenSpec.ofChange fnPlaceSpec)

/-- ITS FALSE NEIGHBOUR: 'it returns false'. Refute it at one input. -/
def fnPlaceWrong : ChangeSpec := { name := "fnPlace", fn := fun _ => fun
  | [d] => { results := [.lit (.bool false)], args := [d] }
  | _ => none }
def FnPlaceWrongFalsely : Prop := fnPlaceRow.holds Try.pinned (OpenSpec.ofChange fnPlaceWrong)

/-- 'laws.FnRoundBounds': WHATEVER THE INPUT: true; the input reads as it did. -/
def fnRoundBoundsSpec : ChangeSpec := { name := "fnRoundBounds", fn := fun _ => fun
  | [d] => { results := [.lit (.bool true)], args := [d] }
  | _ => none }
def fnRoundBoundsRow : OpenClaim := { program := "ytjlehpoicplmpaa", sum := "0ef31dac00a1f6e4cb0e758112cf407e21e9343001b543d3fb5b4fab68e8863c", func := "loop.example/differenceengine/laws.FnRoundBounds", spec := "fnRoundBounds", apart := false }
def FnRoundBoundsSaid : Prop := fnRoundBoundsRow.holds Try.pinned (OpenSpec.ofChange fnRoundBoundsSpec)

/-- ITS FALSE NEIGHBOUR: 'it returns false'. Refute it at one input. -/
def fnRoundBoundsWrong : ChangeSpec := { name := "fnRoundBounds", fn := fun _ => fun
  | [d] => { results := [.lit (.bool false)], args := [d] }
  | _ => none }
def FnRoundBoundsWrongFalsely : Prop := fnRoundBoundsRow.holds Try.pinned (OpenSpec.ofChange fnRoundBoundsWrong)

/-- 'laws.FnRoundOpposite': WHATEVER THE INPUT: true; the input reads as it did. -/
def fnRoundOppositeSpec : ChangeSpec := { name := "fnRoundOpposite", fn := fun _ => fun
  | [d] => { results := [.lit (.bool true)], args := [d] }
  | _ => none }
def fnRoundOppositeRow : OpenClaim := { program := "ytjlehpoicplmpaa", sum := "0ef31dac00a1f6e4cb0e758112cf407e21e9343001b543d3fb5b4fab68e8863c", func := "loop.example/differenceengine/laws.FnRoundOpposite", spec := "fnRoundOpposite", apart := false }
def FnRoundOppositeSaid : Prop := fnRoundOppositeRow.holds Try.pinned (OpenSpec.ofChange fnRoundOppositeSpec)

/-- ITS FALSE NEIGHBOUR: 'it returns false'. Refute it at one input. -/
def fnRoundOppositeWrong : ChangeSpec := { name := "fnRoundOpposite", fn := fun _ => fun
  | [d] => { results := [.lit (.bool false)], args := [d] }
  | _ => none }
def FnRoundOppositeWrongFalsely : Prop := fnRoundOppositeRow.holds Try.pinned (OpenSpec.ofChange fnRoundOppositeWrong)

/-- 'laws.FnRoundOrder': WHATEVER THE INPUT: true; the input reads as it did. -/
def fnRoundOrderSpec : ChangeSpec := { name := "fnRoundOrder", fn := fun _ => fun
  | [d1, d2] => { results := [.lit (.bool true)], args := [d1, d2] }
  | _ => none }
def fnRoundOrderRow : OpenClaim := { program := "ytjlehpoicplmpaa", sum := "0ef31dac00a1f6e4cb0e758112cf407e21e9343001b543d3fb5b4fab68e8863c", func := "loop.example/differenceengine/laws.FnRoundOrder", spec := "fnRoundOrder", apart := false }
def FnRoundOrderSaid : Prop := fnRoundOrderRow.holds Try.pinned (OpenSpec.ofChange fnRoundOrderSpec)

/-- ITS FALSE NEIGHBOUR: 'it returns false'. Refute it at one input. -/
def fnRoundOrderWrong : ChangeSpec := { name := "fnRoundOrder", fn := fun _ => fun
  | [d1, d2] => { results := [.lit (.bool false)], args := [d1, d2] }
  | _ => none }
def FnRoundOrderWrongFalsely : Prop := fnRoundOrderRow.holds Try.pinned (OpenSpec.ofChange fnRoundOrderWrong)

/-- 'laws.FnExactPageSums': WHATEVER THE INPUT: true; the input reads as it did. -/
def fnExactPageSumsSpec : ChangeSpec := { name := "fnExactPageSums", fn := fun _ => fun
  | [d1, d2, d3] => { results := [.lit (.bool true)], args := [d1, d2, d3] }
  | _ => none }
def fnExactPageSumsRow : OpenClaim := { program := "ytjlehpoicplmpaa", sum := "0ef31dac00a1f6e4cb0e758112cf407e21e9343001b543d3fb5b4fab68e8863c", func := "loop.example/differenceengine/laws.FnExactPageSums", spec := "fnExactPageSums", apart := false }
def FnExactPageSumsSaid : Prop := fnExactPageSumsRow.holds Try.pinned (OpenSpec.ofChange fnExactPageSumsSpec)

/-- ITS FALSE NEIGHBOUR: 'it returns false'. Refute it at one input. -/
def fnExactPageSumsWrong : ChangeSpec := { name := "fnExactPageSums", fn := fun _ => fun
  | [d1, d2, d3] => { results := [.lit (.bool false)], args := [d1, d2, d3] }
  | _ => none }
def FnExactPageSumsWrongFalsely : Prop := fnExactPageSumsRow.holds Try.pinned (OpenSpec.ofChange fnExactPageSumsWrong)

/-- 'laws.FnExactRoundTable': WHATEVER THE INPUT: true; the input reads as it did. -/
def fnExactRoundTableSpec : ChangeSpec := { name := "fnExactRoundTable", fn := fun _ => fun
  | [d1, d2, d3] => { results := [.lit (.bool true)], args := [d1, d2, d3] }
  | _ => none }
def fnExactRoundTableRow : OpenClaim := { program := "ytjlehpoicplmpaa", sum := "0ef31dac00a1f6e4cb0e758112cf407e21e9343001b543d3fb5b4fab68e8863c", func := "loop.example/differenceengine/laws.FnExactRoundTable", spec := "fnExactRoundTable", apart := false }
def FnExactRoundTableSaid : Prop := fnExactRoundTableRow.holds Try.pinned (OpenSpec.ofChange fnExactRoundTableSpec)

/-- ITS FALSE NEIGHBOUR: 'it returns false'. Refute it at one input. -/
def fnExactRoundTableWrong : ChangeSpec := { name := "fnExactRoundTable", fn := fun _ => fun
  | [d1, d2, d3] => { results := [.lit (.bool false)], args := [d1, d2, d3] }
  | _ => none }
def FnExactRoundTableWrongFalsely : Prop := fnExactRoundTableRow.holds Try.pinned (OpenSpec.ofChange fnExactRoundTableWrong)

/-- 'laws.FnExactRoundError': WHATEVER THE INPUT: true; the input reads as it did. -/
def fnExactRoundErrorSpec : ChangeSpec := { name := "fnExactRoundError", fn := fun _ => fun
  | [d1, d2, d3] => { results := [.lit (.bool true)], args := [d1, d2, d3] }
  | _ => none }
def fnExactRoundErrorRow : OpenClaim := { program := "ytjlehpoicplmpaa", sum := "0ef31dac00a1f6e4cb0e758112cf407e21e9343001b543d3fb5b4fab68e8863c", func := "loop.example/differenceengine/laws.FnExactRoundError", spec := "fnExactRoundError", apart := false }
def FnExactRoundErrorSaid : Prop := fnExactRoundErrorRow.holds Try.pinned (OpenSpec.ofChange fnExactRoundErrorSpec)

/-- ITS FALSE NEIGHBOUR: 'it returns false'. Refute it at one input. -/
def fnExactRoundErrorWrong : ChangeSpec := { name := "fnExactRoundError", fn := fun _ => fun
  | [d1, d2, d3] => { results := [.lit (.bool false)], args := [d1, d2, d3] }
  | _ => none }
def FnExactRoundErrorWrongFalsely : Prop := fnExactRoundErrorRow.holds Try.pinned (OpenSpec.ofChange fnExactRoundErrorWrong)

/-- 'laws.FnPageSums': WHATEVER THE INPUT: true; the input reads as it did. -/
def fnPageSumsSpec : ChangeSpec := { name := "fnPageSums", fn := fun _ => fun
  | [d] => { results := [.lit (.bool true)], args := [d] }
  | _ => none }
def fnPageSumsRow : OpenClaim := { program := "ytjlehpoicplmpaa", sum := "0ef31dac00a1f6e4cb0e758112cf407e21e9343001b543d3fb5b4fab68e8863c", func := "loop.example/differenceengine/laws.FnPageSums", spec := "fnPageSums", apart := false }
def FnPageSumsSaid : Prop := fnPageSumsRow.holds Try.pinned (OpenSpec.ofChange fnPageSumsSpec)

/-- ITS FALSE NEIGHBOUR: 'it returns false'. Refute it at one input. -/
def fnPageSumsWrong : ChangeSpec := { name := "fnPageSums", fn := fun _ => fun
  | [d] => { results := [.lit (.bool false)], args := [d] }
  | _ => none }
def FnPageSumsWrongFalsely : Prop := fnPageSumsRow.holds Try.pinned (OpenSpec.ofChange fnPageSumsWrong)

/-- 'laws.FnRoundTable': WHATEVER THE INPUT: true; the input reads as it did. -/
def fnRoundTableSpec : ChangeSpec := { name := "fnRoundTable", fn := fun _ => fun
  | [d] => { results := [.lit (.bool true)], args := [d] }
  | _ => none }
def fnRoundTableRow : OpenClaim := { program := "ytjlehpoicplmpaa", sum := "0ef31dac00a1f6e4cb0e758112cf407e21e9343001b543d3fb5b4fab68e8863c", func := "loop.example/differenceengine/laws.FnRoundTable", spec := "fnRoundTable", apart := false }
def FnRoundTableSaid : Prop := fnRoundTableRow.holds Try.pinned (OpenSpec.ofChange fnRoundTableSpec)

/-- ITS FALSE NEIGHBOUR: 'it returns false'. Refute it at one input. -/
def fnRoundTableWrong : ChangeSpec := { name := "fnRoundTable", fn := fun _ => fun
  | [d] => { results := [.lit (.bool false)], args := [d] }
  | _ => none }
def FnRoundTableWrongFalsely : Prop := fnRoundTableRow.holds Try.pinned (OpenSpec.ofChange fnRoundTableWrong)

/-- 'laws.FnExactShortenColumn': WHATEVER THE INPUT: true; the input reads as it did. -/
def fnExactShortenColumnSpec : ChangeSpec := { name := "fnExactShortenColumn", fn := fun _ => fun
  | [d] => { results := [.lit (.bool true)], args := [d] }
  | _ => none }
def fnExactShortenColumnRow : OpenClaim := { program := "ytjlehpoicplmpaa", sum := "0ef31dac00a1f6e4cb0e758112cf407e21e9343001b543d3fb5b4fab68e8863c", func := "loop.example/differenceengine/laws.FnExactShortenColumn", spec := "fnExactShortenColumn", inPlace := ["internal/abi.NoEscape", "internal/bytealg.MakeNoZero"], apart := false }
def FnExactShortenColumnSaid : Prop := fnExactShortenColumnRow.holds Try.pinned (OpenSpec.ofChange fnExactShortenColumnSpec)

/-- ITS FALSE NEIGHBOUR: 'it returns false'. Refute it at one input. -/
def fnExactShortenColumnWrong : ChangeSpec := { name := "fnExactShortenColumn", fn := fun _ => fun
  | [d] => { results := [.lit (.bool false)], args := [d] }
  | _ => none }
def FnExactShortenColumnWrongFalsely : Prop := fnExactShortenColumnRow.holds Try.pinned (OpenSpec.ofChange fnExactShortenColumnWrong)

/-- 'laws.FnExactStereotypeOf': WHATEVER THE INPUT: true; the input reads as it did. -/
def fnExactStereotypeOfSpec : ChangeSpec := { name := "fnExactStereotypeOf", fn := fun _ => fun
  | [d] => { results := [.lit (.bool true)], args := [d] }
  | _ => none }
def fnExactStereotypeOfRow : OpenClaim := { program := "ytjlehpoicplmpaa", sum := "0ef31dac00a1f6e4cb0e758112cf407e21e9343001b543d3fb5b4fab68e8863c", func := "loop.example/differenceengine/laws.FnExactStereotypeOf", spec := "fnExactStereotypeOf", inPlace := ["internal/abi.NoEscape", "internal/bytealg.MakeNoZero"], apart := false }
def FnExactStereotypeOfSaid : Prop := fnExactStereotypeOfRow.holds Try.pinned (OpenSpec.ofChange fnExactStereotypeOfSpec)

/-- ITS FALSE NEIGHBOUR: 'it returns false'. Refute it at one input. -/
def fnExactStereotypeOfWrong : ChangeSpec := { name := "fnExactStereotypeOf", fn := fun _ => fun
  | [d] => { results := [.lit (.bool false)], args := [d] }
  | _ => none }
def FnExactStereotypeOfWrongFalsely : Prop := fnExactStereotypeOfRow.holds Try.pinned (OpenSpec.ofChange fnExactStereotypeOfWrong)

/- THE SECOND FORM. 'bulk': how many values and letters a reading holds, each counted each time it is reached (what is shared counts as often as it is met; a slice's spare places count too). A statement '..UptoSaid' is the law's where the arguments, and the package variables that the reading takes, are together of bulk at most 1048576: NARROWER than '..Said'. Prove '..Said' where nothing that the law and all that it calls make is longer than what came in: it says more and counts as full. Else prove '..UptoSaid'. A law counts once. -/
mutual
def uptoBulk {H : Type} : DataW H → Nat
  | .lit (.string bytes) => bytes.length + 1
  | .lit _ => 1
  | .nil => 1
  | .ptr d => uptoBulk d + 1
  | .slice elems spare => uptoBulkAll elems + uptoBulkAll spare + 1
  | .agg parts => uptoBulkAll parts + 1
  | .iface _ d => uptoBulk d + 1
  | .map entries => uptoBulkEntries entries + 1
  | .held _ => 1
def uptoBulkAll {H : Type} : List (DataW H) → Nat
  | [] => 0
  | d :: r => uptoBulk d + uptoBulkAll r
def uptoBulkEntries {H : Type} : List (Lit × DataW H) → Nat
  | [] => 0
  | x :: r => uptoBulkEntry x + uptoBulkEntries r
def uptoBulkEntry {H : Type} : Lit × DataW H → Nat
  | (.string bytes, d) => bytes.length + uptoBulk d + 1
  | (_, d) => uptoBulk d + 1
 end
def uptoSmall : (H : Type) → List (DataW H) → Bool := fun _ ds => decide (uptoBulkAll ds ≤ 1048576)
def OpenSpec.upto (s : _root_.Go.ChangeSpec) : _root_.Go.OpenSpec := { _root_.Go.OpenSpec.ofChange s with cond := some uptoSmall }

/-- 'laws.FnExactDealTable', WHERE WHAT IT READS IS OF BULK AT MOST 1048576: true; the input reads as it did. -/
def fnExactDealTableUptoRow : OpenClaim := { program := "ytjlehpoicplmpaa", sum := "0ef31dac00a1f6e4cb0e758112cf407e21e9343001b543d3fb5b4fab68e8863c", func := "loop.example/differenceengine/laws.FnExactDealTable", spec := "fnExactDealTable", apart := false, narrowed := true }
def FnExactDealTableUptoSaid : Prop := fnExactDealTableUptoRow.holds Try.pinned (OpenSpec.upto fnExactDealTableSpec)

/-- 'laws.FnExactInterleave', WHERE WHAT IT READS IS OF BULK AT MOST 1048576: true; the input reads as it did. -/
def fnExactInterleaveUptoRow : OpenClaim := { program := "ytjlehpoicplmpaa", sum := "0ef31dac00a1f6e4cb0e758112cf407e21e9343001b543d3fb5b4fab68e8863c", func := "loop.example/differenceengine/laws.FnExactInterleave", spec := "fnExactInterleave", apart := false, narrowed := true }
def FnExactInterleaveUptoSaid : Prop := fnExactInterleaveUptoRow.holds Try.pinned (OpenSpec.upto fnExactInterleaveSpec)

/-- 'laws.FnExactLinesValid', WHERE WHAT IT READS IS OF BULK AT MOST 1048576: true; the input reads as it did. -/
def fnExactLinesValidUptoRow : OpenClaim := { program := "ytjlehpoicplmpaa", sum := "0ef31dac00a1f6e4cb0e758112cf407e21e9343001b543d3fb5b4fab68e8863c", func := "loop.example/differenceengine/laws.FnExactLinesValid", spec := "fnExactLinesValid", apart := false, narrowed := true }
def FnExactLinesValidUptoSaid : Prop := fnExactLinesValidUptoRow.holds Try.pinned (OpenSpec.upto fnExactLinesValidSpec)

/-- 'laws.FnExactRoundEntry', WHERE WHAT IT READS IS OF BULK AT MOST 1048576: true; the input reads as it did. -/
def fnExactRoundEntryUptoRow : OpenClaim := { program := "ytjlehpoicplmpaa", sum := "0ef31dac00a1f6e4cb0e758112cf407e21e9343001b543d3fb5b4fab68e8863c", func := "loop.example/differenceengine/laws.FnExactRoundEntry", spec := "fnExactRoundEntry", apart := false, narrowed := true }
def FnExactRoundEntryUptoSaid : Prop := fnExactRoundEntryUptoRow.holds Try.pinned (OpenSpec.upto fnExactRoundEntrySpec)

/-- 'laws.FnIndexOfPlace', WHERE WHAT IT READS IS OF BULK AT MOST 1048576: true; the input reads as it did. -/
def fnIndexOfPlaceUptoRow : OpenClaim := { program := "ytjlehpoicplmpaa", sum := "0ef31dac00a1f6e4cb0e758112cf407e21e9343001b543d3fb5b4fab68e8863c", func := "loop.example/differenceengine/laws.FnIndexOfPlace", spec := "fnIndexOfPlace", apart := false, narrowed := true }
def FnIndexOfPlaceUptoSaid : Prop := fnIndexOfPlaceUptoRow.holds Try.pinned (OpenSpec.upto fnIndexOfPlaceSpec)

/-- 'laws.FnPlace', WHERE WHAT IT READS IS OF BULK AT MOST 1048576: true; the input reads as it did. -/
def fnPlaceUptoRow : OpenClaim := { program := "ytjlehpoicplmpaa", sum := "0ef31dac00a1f6e4cb0e758112cf407e21e9343001b543d3fb5b4fab68e8863c", func := "loop.example/differenceengine/laws.FnPlace", spec := "fnPlace", apart := false, narrowed := true }
def FnPlaceUptoSaid : Prop := fnPlaceUptoRow.holds Try.pinned (OpenSpec.upto fnPlaceSpec)

/-- 'laws.FnRoundBounds', WHERE WHAT IT READS IS OF BULK AT MOST 1048576: true; the input reads as it did. -/
def fnRoundBoundsUptoRow : OpenClaim := { program := "ytjlehpoicplmpaa", sum := "0ef31dac00a1f6e4cb0e758112cf407e21e9343001b543d3fb5b4fab68e8863c", func := "loop.example/differenceengine/laws.FnRoundBounds", spec := "fnRoundBounds", apart := false, narrowed := true }
def FnRoundBoundsUptoSaid : Prop := fnRoundBoundsUptoRow.holds Try.pinned (OpenSpec.upto fnRoundBoundsSpec)

/-- 'laws.FnRoundOpposite', WHERE WHAT IT READS IS OF BULK AT MOST 1048576: true; the input reads as it did. -/
def fnRoundOppositeUptoRow : OpenClaim := { program := "ytjlehpoicplmpaa", sum := "0ef31dac00a1f6e4cb0e758112cf407e21e9343001b543d3fb5b4fab68e8863c", func := "loop.example/differenceengine/laws.FnRoundOpposite", spec := "fnRoundOpposite", apart := false, narrowed := true }
def FnRoundOppositeUptoSaid : Prop := fnRoundOppositeUptoRow.holds Try.pinned (OpenSpec.upto fnRoundOppositeSpec)

/-- 'laws.FnRoundOrder', WHERE WHAT IT READS IS OF BULK AT MOST 1048576: true; the input reads as it did. -/
def fnRoundOrderUptoRow : OpenClaim := { program := "ytjlehpoicplmpaa", sum := "0ef31dac00a1f6e4cb0e758112cf407e21e9343001b543d3fb5b4fab68e8863c", func := "loop.example/differenceengine/laws.FnRoundOrder", spec := "fnRoundOrder", apart := false, narrowed := true }
def FnRoundOrderUptoSaid : Prop := fnRoundOrderUptoRow.holds Try.pinned (OpenSpec.upto fnRoundOrderSpec)

/-- 'laws.FnExactPageSums', WHERE WHAT IT READS IS OF BULK AT MOST 1048576: true; the input reads as it did. -/
def fnExactPageSumsUptoRow : OpenClaim := { program := "ytjlehpoicplmpaa", sum := "0ef31dac00a1f6e4cb0e758112cf407e21e9343001b543d3fb5b4fab68e8863c", func := "loop.example/differenceengine/laws.FnExactPageSums", spec := "fnExactPageSums", apart := false, narrowed := true }
def FnExactPageSumsUptoSaid : Prop := fnExactPageSumsUptoRow.holds Try.pinned (OpenSpec.upto fnExactPageSumsSpec)

/-- 'laws.FnExactRoundTable', WHERE WHAT IT READS IS OF BULK AT MOST 1048576: true; the input reads as it did. -/
def fnExactRoundTableUptoRow : OpenClaim := { program := "ytjlehpoicplmpaa", sum := "0ef31dac00a1f6e4cb0e758112cf407e21e9343001b543d3fb5b4fab68e8863c", func := "loop.example/differenceengine/laws.FnExactRoundTable", spec := "fnExactRoundTable", apart := false, narrowed := true }
def FnExactRoundTableUptoSaid : Prop := fnExactRoundTableUptoRow.holds Try.pinned (OpenSpec.upto fnExactRoundTableSpec)

/-- 'laws.FnExactRoundError', WHERE WHAT IT READS IS OF BULK AT MOST 1048576: true; the input reads as it did. -/
def fnExactRoundErrorUptoRow : OpenClaim := { program := "ytjlehpoicplmpaa", sum := "0ef31dac00a1f6e4cb0e758112cf407e21e9343001b543d3fb5b4fab68e8863c", func := "loop.example/differenceengine/laws.FnExactRoundError", spec := "fnExactRoundError", apart := false, narrowed := true }
def FnExactRoundErrorUptoSaid : Prop := fnExactRoundErrorUptoRow.holds Try.pinned (OpenSpec.upto fnExactRoundErrorSpec)

/-- 'laws.FnPageSums', WHERE WHAT IT READS IS OF BULK AT MOST 1048576: true; the input reads as it did. -/
def fnPageSumsUptoRow : OpenClaim := { program := "ytjlehpoicplmpaa", sum := "0ef31dac00a1f6e4cb0e758112cf407e21e9343001b543d3fb5b4fab68e8863c", func := "loop.example/differenceengine/laws.FnPageSums", spec := "fnPageSums", apart := false, narrowed := true }
def FnPageSumsUptoSaid : Prop := fnPageSumsUptoRow.holds Try.pinned (OpenSpec.upto fnPageSumsSpec)

/-- 'laws.FnRoundTable', WHERE WHAT IT READS IS OF BULK AT MOST 1048576: true; the input reads as it did. -/
def fnRoundTableUptoRow : OpenClaim := { program := "ytjlehpoicplmpaa", sum := "0ef31dac00a1f6e4cb0e758112cf407e21e9343001b543d3fb5b4fab68e8863c", func := "loop.example/differenceengine/laws.FnRoundTable", spec := "fnRoundTable", apart := false, narrowed := true }
def FnRoundTableUptoSaid : Prop := fnRoundTableUptoRow.holds Try.pinned (OpenSpec.upto fnRoundTableSpec)

/-- 'laws.FnExactShortenColumn', WHERE WHAT IT READS IS OF BULK AT MOST 1048576: true; the input reads as it did. -/
def fnExactShortenColumnUptoRow : OpenClaim := { program := "ytjlehpoicplmpaa", sum := "0ef31dac00a1f6e4cb0e758112cf407e21e9343001b543d3fb5b4fab68e8863c", func := "loop.example/differenceengine/laws.FnExactShortenColumn", spec := "fnExactShortenColumn", inPlace := ["internal/abi.NoEscape", "internal/bytealg.MakeNoZero"], apart := false, narrowed := true }
def FnExactShortenColumnUptoSaid : Prop := fnExactShortenColumnUptoRow.holds Try.pinned (OpenSpec.upto fnExactShortenColumnSpec)

/-- 'laws.FnExactStereotypeOf', WHERE WHAT IT READS IS OF BULK AT MOST 1048576: true; the input reads as it did. -/
def fnExactStereotypeOfUptoRow : OpenClaim := { program := "ytjlehpoicplmpaa", sum := "0ef31dac00a1f6e4cb0e758112cf407e21e9343001b543d3fb5b4fab68e8863c", func := "loop.example/differenceengine/laws.FnExactStereotypeOf", spec := "fnExactStereotypeOf", inPlace := ["internal/abi.NoEscape", "internal/bytealg.MakeNoZero"], apart := false, narrowed := true }
def FnExactStereotypeOfUptoSaid : Prop := fnExactStereotypeOfUptoRow.holds Try.pinned (OpenSpec.upto fnExactStereotypeOfSpec)

end Rows
end Go.Proofs.Ytjlehpoicplmpaa
