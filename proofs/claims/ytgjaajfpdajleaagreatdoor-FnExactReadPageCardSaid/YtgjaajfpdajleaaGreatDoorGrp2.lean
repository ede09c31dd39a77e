/- Contracts: a number with its digits in groups, in the program. -/
import Derived.Test.YtgjaajfpdajleaaGreatDoorGrp
namespace Go.Proofs.YtgjaajfpdajleaaGreatDoor
set_option linter.unusedVariables false
open Go.RowKit

/-- the builder at block b (of the call's own since block B) holds the bytes l -/
def Bl (B b : Nat) (l : List UInt8) (w : World) : Prop := Lib.IsBuilder 78 5 B b (Lib.byteCells l) w
theorem Bl.byte {B b : Nat} {l : List UInt8} {w : World} (h : Bl B b l w) (c : UInt8) (hl : l.length ≤ 1099511627776) (hB : B ≤ w.heap.size) :
    Calls Tryz.prog 54 #[.pointer (some ⟨b, 0, none⟩), .int .u8 (c.toNat : Int)] w fun e w' => e = .returned .nilIface ∧ Bl B b (l ++ [c]) w' ∧ Below B w w' := by
  refine (c_WriteByte B b (Lib.byteCells l) (c.toNat : Int) w h (by rw [Lib.byteCells_length]; omega) hB).mono ?_
  rintro e w' ⟨h1, h2, h3⟩
  exact ⟨h1, .inr (by rw [← byteCells_snoc]; exact h2), h3⟩
theorem Bl.done {B b : Nat} {l : List UInt8} {w : World} (h : Bl B b l w) (hB : B ≤ w.heap.size) :
    Calls Tryz.prog 56 #[.pointer (some ⟨b, 0, none⟩)] w fun e w' => ∃ Y, e = .returned (.string Y) ∧ IsS Y l ∧ Below B w w' :=
  (Tryz.Builder_String_any B b l w h hB).mono fun e w' ⟨h1, h2⟩ => ⟨_, h1, IsS.mk l, h2⟩
theorem Bl.fresh (w : World) : Bl w.heap.size w.heap.size [] (w.alloc (.cells #[.pointer none, .slice none 0 0] 78)) := Lib.fresh_isBuilder _ _ w

end Go.Proofs.YtgjaajfpdajleaaGreatDoor
