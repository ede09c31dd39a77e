/- Lemmas and contracts for WholeSheet (Rest): plain words on memory, contracts of the functions that the law reaches. No condition but what each states. -/
import Derived.Test.YtdgnhplaakjlgaaGreatDoorMWholeSheetRestP
import Derived.Test.YtdgnhplaakjlgaaGreatDoorMWholeSheetSapp
import Derived.WalkSpells
namespace Go.Proofs.YtdgnhplaakjlgaaGreatDoor
set_option linter.unusedVariables false
open Go.RowKit

theorem slice_toT (y : ByteArray) (n : Nat) (h : n ≤ y.size) : ∃ T, (∀ W, (Instr.slice 9 (.string y) none (some (.int .i64 (n : Int))) none).run Tryz.prog W = .ok (.string T) W) ∧ T.size ≤ y.size ∧ IsS T (y.data.toList.take n) := by
  refine ⟨y.extract 0 n, fun W => ?_, by rw [ByteArray.size_extract]; omega, ?_⟩
  · rw [run_slice_string_to_if W 9 y .i64 n Tryz.underlying9, if_pos (by omega), Int.toNat_natCast]
  · exact ((IsS.self y).ext 0 n).cast (by rw [List.drop_zero, Nat.sub_zero])
/-- the sum of a beginning and an end -/
theorem fill_parts {a s : ByteArray} {n : Nat} (hn : n ≤ a.size) (hm : n ≤ s.size) (hs : a.size + s.size ≤ 9223372036854775807) (h : fillN a.data.toList s.data.toList = n) :
    ∃ U T, (∀ W, (Instr.slice 9 (.string a) none (some (.int .i64 (n : Int))) none).run Tryz.prog W = .ok (.string U) W) ∧
      (∀ W, (Instr.slice 9 (.string s) (some (.int .i64 (n : Int))) none none).run Tryz.prog W = .ok (.string T) W) ∧ (9223372036854775807 < U.size + T.size) = False ∧ IsS (U ++ T) (fillL a.data.toList s.data.toList) := by
  obtain ⟨U, g3, hU, hUi⟩ := slice_toT a n hn
  obtain ⟨T, g4, hT, hTi⟩ := slice_fromT s n hm
  refine ⟨U, T, g3, g4, eq_false (by omega), (hUi.app hTi).cast ?_⟩
  unfold fillL
  rw [h]

end Go.Proofs.YtdgnhplaakjlgaaGreatDoor
