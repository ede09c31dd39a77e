/- Bytes as values; a string made of a slice of bytes. -/
import Derived.Test.YtdgnhplaakjlgaaGreatDoorStr0
import Derived.Laws.IdiomStrings
import Derived.Deep.QuietTactic
import Derived.BigQuiet
import Derived.Shelf.SlicesE.Kit
namespace Go.Proofs.YtdgnhplaakjlgaaGreatDoor
set_option linter.unusedVariables false
open Go.RowKit

def encB (b : UInt8) : Value := .int .u8 (b.toNat : Int)
theorem encB_one : OneCell encB := fun _ => rfl

theorem string_back (w : World) (b cap : Nat) (l : List UInt8) (h : Sort.Holds encB w b 0 l.toArray) :
    (convert 22 9 (.slice (some ⟨b, 0, none⟩) l.length cap)).run Tryz.prog w = .ok (.string ⟨l.toArray⟩) w := by
  refine run_convert_bytes_back (P := Tryz.prog) w 22 9 5 ⟨b, 0, none⟩ cap l Tryz.underlying22 Tryz.underlying5 Tryz.underlying9 (fun j hj => ?_)
  rw [addr_add, (h j (by simpa using hj)).1]
  simp [encB, hj]

theorem quiet_left {P : Program} {f : FuncId} {args : Array Value} {w : World} {n : Nat} {v : Value}
    (h : Calls P f args (w.drewN n) fun e w' => e = .returned v ∧ w.drewN n = w') : Calls P f args (w.drewN n) fun e w'' => e = .returned v ∧ ∃ m, w'' = w.drewN m :=
  h.mono fun _ _ ⟨he, hm⟩ => ⟨he, n, hm.symm⟩
end Go.Proofs.YtdgnhplaakjlgaaGreatDoor
