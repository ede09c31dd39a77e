/- Lemmas and contracts for WholeSheet (Errt): plain words on memory, contracts of the functions that the law reaches. No condition but what each states. -/
import Derived.Test.YtdgnhplaakjlgaaGreatDoorMWholeSheetTab
import Derived.Test.YtdgnhplaakjlgaaGreatDoorMWholeSheetRd
namespace Go.Proofs.YtdgnhplaakjlgaaGreatDoor
set_option linter.unusedVariables false
open Go.RowKit

theorem c_tablesAlike (va vb : Value) (xs : List Int) (w : World) (ha : RdI w va xs) (hb : RdI w vb xs) (hx : xs.length ≤ 1099511627776) (ht : tabB xs = true) :
    Calls Tryz.prog 51 #[va, vb] w fun e w' => e = .returned (.bool true) ∧ Below w.heap.size w w' := by
  have ha0 := ha
  obtain ⟨a, cap, rfl, _⟩ := ha0
  have hb0 := hb
  obtain ⟨b, cap2, rfl, _⟩ := hb0
  simp only [List.length_map] at ha hb ⊢
  go_enter Tryz.func51, Tryz.ntmps51
  go_wp2_with fail
  refine (c_impl_TableValid _ xs _ ha hx).mono ?_
  rw [ht]
  rintro e w1 ⟨rfl, hB1⟩
  go_wp2_with fail
  refine (c_impl_TableValid _ xs _ (hb.kept hB1) hx).mono ?_
  rw [ht]
  rintro e w2 ⟨rfl, hB2⟩
  have hF := bthen hB1 hB2
  clear hB1 hB2 ha hb
  go_wp2
  go_ret
  exact ⟨by simp, hF⟩
set_option maxRecDepth 20000 in
set_option maxHeartbeats 1600000 in
theorem c_ErrataOf_same (va vb : Value) (xs : List Int) (w : World) (ha : RdI w va xs) (hb : RdI w vb xs) (hx : xs.length ≤ 1099511627776) (ht : tabB xs = true) :
    Calls Tryz.prog 17 #[va, vb] w fun e w' => e = .returned (.tuple #[.slice none 0 0, .bool true]) ∧ Below w.heap.size w w' := by
  have ha0 := ha
  obtain ⟨a, cap, rfl, _⟩ := ha0
  have hb0 := hb
  obtain ⟨b, cap2, rfl, _⟩ := hb0
  simp only [List.length_map] at ha hb ⊢
  go_enter Tryz.func17, Tryz.ntmps17
  go_wp2_with fail
  refine (c_tablesAlike _ _ xs _ ha hb hx ht).mono ?_
  rintro e w1 ⟨rfl, hB1⟩
  have ha1 := ha.kept hB1
  have hb1 := hb.kept hB1
  clear ha hb
  go_wp2
  go_loopw [6, 14] (fun o i wr => ∃ k : Nat, k ≤ xs.length ∧ i = .int .i64 k ∧ o = .slice none 0 0 ∧ Below w1.heap.size w1 wr) (fun _ i _ => xs.length - (intOf i).toNat)
  case atStart => exact ⟨0, by omega, rfl, rfl, Below.refl _ _⟩
  case round =>
    obtain ⟨k, hk, rfl, rfl, hB⟩ := hrel
    by_cases hlt : k < xs.length
    · obtain ⟨b1, o1, rfl, hb2, e1⟩ := RdI_cell ha1 hB hlt
      obtain ⟨b3, o3, rfl, hb4, e3⟩ := RdI_cell hb1 hB hlt
      obtain ⟨x, hx0⟩ : ∃ x, xs.getD k 0 = x := ⟨_, rfl⟩
      rw [hx0] at e1 e3
      clear hx0 ha1 hb1
      go_wp2
      go_quiet (fail)
      go_wp2
      go_roundw
      case rel => exact ⟨k + 1, by omega, by go_num, rfl, below_drewN hB _⟩
      case measure => simp [intOf]; omega
    · have hF := bthen hB1 hB
      clear ha1 hb1 hB hB1
      go_wp2
      go_ret2
      exact ⟨rfl, hF⟩
end Go.Proofs.YtdgnhplaakjlgaaGreatDoor
