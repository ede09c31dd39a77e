/- Contracts: two slices of strings held against each other by the library; a text without the spaces at its beginning or its end. -/
import Derived.Test.YtdgnhplaakjlgaaGreatDoorRows1
import Derived.Test.YtdgnhplaakjlgaaGreatDoorShelf
import Derived.Lib.TrimByte
namespace Go.Proofs.YtdgnhplaakjlgaaGreatDoor
set_option linter.unusedVariables false
open Go.RowKit

theorem c_slEqual (va vb : Value) (xs ys : List ByteArray) (w : World) (ha : RdS w va xs) (hb : RdS w vb ys) (hx : xs.length ≤ 1099511627776) (hy : ys.length ≤ 1099511627776) :
    Calls Tryz.prog 27 #[va, vb] w fun e w' => e = .returned (.bool (decide (xs = ys))) ∧ Below w.heap.size w w' := by
  by_cases hl : xs.length = ys.length
  · rcases ha.op with ⟨a, cap, rfl, rfl⟩ | ⟨b1, o1, c1, rfl, hb1, h1⟩
    · have hy0 : ys = [] := List.eq_nil_of_length_eq_zero (by simpa using hl.symm)
      subst hy0
      obtain ⟨a2, cap2, rfl, _⟩ := hb
      refine (Tryz.slices_Equal_string_empty a a2 cap 0 cap2 w (by omega)).mono ?_
      rintro e w' ⟨rfl, rfl⟩
      exact ⟨rfl, Below.refl _ _⟩
    · rcases hb.op with ⟨a2, cap2, rfl, rfl⟩ | ⟨b2, o2, c2, rfl, hb2, h2⟩
      · have hx0 : xs = [] := List.eq_nil_of_length_eq_zero (by simpa using hl)
        subst hx0
        refine (Tryz.slices_Equal_string_empty (some ⟨b1, o1, none⟩) a2 c1 0 cap2 w (by omega)).mono ?_
        rintro e w' ⟨rfl, rfl⟩
        exact ⟨rfl, Below.refl _ _⟩
      · refine (Tryz.slices_Equal_string b1 o1 xs.length c1 b2 o2 ys.length c2 xs ys w (Nat.le_refl _) (Nat.le_refl _) (by omega) (by omega) h1 h2).mono ?_
        rintro e w' ⟨rfl, q, rfl⟩
        rw [List.take_length, List.take_length]
        exact ⟨rfl, below_drewN (Below.refl _ _) q⟩
  · obtain ⟨a1, c1, rfl, _⟩ := ha
    obtain ⟨a2, c2, rfl, _⟩ := hb
    simp only [List.length_map]
    refine (Tryz.slices_Equal_string_lens a1 a2 xs.length c1 ys.length c2 w hl).mono ?_
    rintro e w' ⟨rfl, rfl⟩
    exact ⟨by rw [decide_eq_false (fun q => hl (by rw [q]))], Below.refl _ _⟩
theorem c_TrimLeft (s : ByteArray) (w : World) :
    Calls Tryz.prog 79 #[.string s, .string ⟨#[32]⟩] w (StrQ (Lib.trimLeftB s.data.toList 32) w) :=
  (Tryz.strings_TrimLeft_one s 32 (by decide) w).mono fun e w' ⟨h1, h2⟩ => ⟨_, h1, IsS.mk _, h2.symm⟩
theorem c_TrimRight (s : ByteArray) (w : World) (hs : s.size ≤ 9223372036854775807) :
    Calls Tryz.prog 48 #[.string s, .string ⟨#[32]⟩] w (StrQ (Lib.trimRightB s.data.toList 32) w) :=
  (Tryz.strings_TrimRight_one s 32 (by decide) w hs).mono fun e w' ⟨h1, h2⟩ => ⟨_, h1, IsS.mk _, h2.symm⟩
end Go.Proofs.YtdgnhplaakjlgaaGreatDoor
