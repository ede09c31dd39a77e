/- Lemmas and contracts for PrintRead (Grp Grp2): plain words on memory, contracts of the functions that the law reaches. No condition but what each states. -/
import Derived.Test.YtgjaajfpdajleaaGreatDoorMPrintReadItoa
import Derived.Test.YtgjaajfpdajleaaGreatDoorMPrintReadBld
import Derived.Test.YtgjaajfpdajleaaGreatDoorMPrintReadLay
import Derived.WalkSpells
namespace Go.Proofs.YtgjaajfpdajleaaGreatDoor
set_option linter.unusedVariables false
open Go.RowKit

/-- the first k digits of t, in groups from the right -/
def grpK (t : List UInt8) : Nat → List UInt8
  | 0 => []
  | k + 1 => grpK t k ++ ((if 0 < k ∧ (t.length - k) % 3 = 0 then [32] else []) ++ (t.drop k).take 1)
def grpN (n : Nat) : List UInt8 := grpK (Lib.decDigits n) (Lib.decDigits n).length
def grpF (n : Int) : List UInt8 := if inB n (-1000000000) 1000000000 = true then (if n < 0 then 45 :: grpN (-n).toNat else grpN n.toNat) else []
theorem grpK_len (t : List UInt8) (k : Nat) : (grpK t k).length ≤ 2 * k := by
  induction k with
  | zero => simp [grpK]
  | succ k ih =>
    rw [grpK]
    have h1 : ((t.drop k).take 1).length ≤ 1 := by rw [List.length_take]; omega
    have h2 : (if 0 < k ∧ (t.length - k) % 3 = 0 then [32] else ([] : List UInt8)).length ≤ 1 := by split <;> simp
    simp only [List.length_append]
    omega
theorem grpN_len {n : Nat} (h : n ≤ 1000000000000000) : (grpN n).length ≤ 32 := by
  have h1 := grpK_len (Lib.decDigits n) (Lib.decDigits n).length
  have h2 := dec_len n h
  unfold grpN
  omega
theorem grpF_len (n : Int) : (grpF n).length ≤ 33 := by
  unfold grpF
  split
  · rename_i h
    obtain ⟨h1, h2⟩ := inB_iff.1 h
    split
    · have := grpN_len (n := (-n).toNat) (by omega); simp; omega
    · have := grpN_len (n := n.toNat) (by omega); omega
  · simp
theorem byteCells_snoc (l : List UInt8) (b : UInt8) : Lib.byteCells l ++ [.int .u8 (b.toNat : Int)] = Lib.byteCells (l ++ [b]) := by simp [Lib.byteCells]
theorem take1 {t : List UInt8} {k : Nat} (h : k < t.length) : (t.drop k).take 1 = [t[k]] := by
  rw [List.drop_eq_getElem_cons h]; rfl

end Go.Proofs.YtgjaajfpdajleaaGreatDoor

namespace Go.Proofs.YtgjaajfpdajleaaGreatDoor
set_option linter.unusedVariables false
open Go.RowKit

/-- the builder at block b (of the call's own since block B) holds the bytes l -/
def Bl (B b : Nat) (l : List UInt8) (w : World) : Prop := Lib.IsBuilder 78 5 B b (Lib.byteCells l) w
theorem Bl.byte {B b : Nat} {l : List UInt8} {w : World} (h : Bl B b l w) (c : UInt8) (hl : l.length ≤ 1099511627776) (hB : B ≤ w.heap.size) :
    Calls Tryz.prog 54 #[.pointer (some ⟨b, 0, none⟩), .int .u8 (c.toNat : Int)] w fun e w' => e = .returned .nilIface ∧ Bl B b (l ++ [c]) w' ∧ Below B w w' := by
  refine (c_WriteByte B b (Lib.byteCells l) (c.toNat : Int) w h (by rw [Lib.byteCells_length]; omega) hB).mono ?_
  rintro e w' ⟨h1, h2, h3⟩
  exact ⟨h1, .inr (by rw [← byteCells_snoc]; exact h2), h3⟩
theorem Bl.done {B b : Nat} {l : List UInt8} {w : World} (h : Bl B b l w) (hB : B ≤ w.heap.size) :
    Calls Tryz.prog 56 #[.pointer (some ⟨b, 0, none⟩)] w fun e w' => ∃ Y, e = .returned (.string Y) ∧ IsS Y l ∧ Below B w w' :=
  (Tryz.Builder_String_any B b l w h hB).mono fun e w' ⟨h1, h2⟩ => ⟨_, h1, IsS.mk l, h2⟩
theorem Bl.fresh (w : World) : Bl w.heap.size w.heap.size [] (w.alloc (.cells #[.pointer none, .slice none 0 0] 78)) := Lib.fresh_isBuilder _ _ w

end Go.Proofs.YtgjaajfpdajleaaGreatDoor
