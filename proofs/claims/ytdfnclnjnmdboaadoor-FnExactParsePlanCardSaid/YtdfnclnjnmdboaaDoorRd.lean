/- Contracts of the reference's source of drawn numbers: what it returns lies in its bounds; nothing but its own count is written. -/
import Derived.Test.YtdfnclnjnmdboaaDoorApp2
import Derived.Deep.QuietTactic
import Derived.BigQuiet
import Derived.Deep.Light
import Derived.WalkSmall
import Derived.Deep.Fields23
namespace Go.Proofs.YtdfnclnjnmdboaaDoor
set_option linter.unusedVariables false
open Go.RowKit

theorem _root_.Go.World.grownBy.drewN {a w : World} {row : Option Nat} (h : a.grownBy w row) (n : Nat) : a.grownBy (w.drewN n) row := ⟨h.os, h.tape, h.output, h.size, h.block⟩
theorem heap_row_cell {w : World} {g : Nat} {v0 v1 : Value} {t : TypeId} (h : w.heap[g]? = some (.cells #[v0, v1] t (0, 0))) : w.cell? ⟨g, 0, none⟩ = some v0 ∧ w.cell? ⟨g, 1, none⟩ = some v1 ∧ w.frozen? ⟨g, 1, none⟩ = false ∧ w.frozen? ⟨g, 0, none⟩ = false := by
  refine ⟨?_, ?_, ?_, ?_⟩ <;> simp [World.cell?, World.frozen?, h]
theorem heap_row_set {w : World} {g : Nat} {v0 v1 u : Value} {t : TypeId} (h : w.heap[g]? = some (.cells #[v0, v1] t (0, 0))) : (w.setCell ⟨g, 1, none⟩ u).heap[g]? = some (.cells #[v0, u] t (0, 0)) := by
  simp [World.setCell, Array.getElem?_modify, h]
theorem RdL_setCell {w : World} {v u : Value} {xs : List Value} {g o : Nat} (h : RdL w v xs) (hne : xs = [] ∨ ∀ a n c, v = .slice (some a) n c → a.block < g) : RdL (w.setCell ⟨g, o, none⟩ u) v xs := by
  obtain ⟨a, cap, rfl, h⟩ := h
  refine ⟨a, cap, rfl, ?_⟩
  rcases h with h | ⟨b, off, rfl, hlt, h⟩
  · exact .inl h
  · by_cases hx : xs = []
    · exact .inl hx
    have hb := hne.resolve_left hx _ _ _ rfl
    simp at hb
    refine .inr ⟨b, off, rfl, by simpa [World.setCell] using hlt, fun i hi => ?_⟩
    rw [World.cell?_setCell_other _ _ _ _ (by simp only [ne_eq, Addr.mk.injEq]; omega)]
    exact h i hi

theorem xor_nonneg (a b : Int) (ha : 0 ≤ a) (ha' : a ≤ 9223372036854775807) (hb : 0 ≤ b) (hb' : b ≤ 9223372036854775807) : ∃ x, 0 ≤ x ∧ x ≤ 9223372036854775807 ∧ bits BinOp.xor IntKind.i64 a b = x := by
  have e : ((BitVec.ofInt 64 a ^^^ BitVec.ofInt 64 b).toNat) < 2 ^ 63 := by
    rw [BitVec.toNat_xor]
    apply Nat.xor_lt_two_pow
    · rw [BitVec.toNat_ofInt]; omega
    · rw [BitVec.toNat_ofInt]; omega
  have h0 : bits BinOp.xor IntKind.i64 a b = IntKind.i64.wrap ((BitVec.ofInt 64 a ^^^ BitVec.ofInt 64 b).toNat : Int) := rfl
  have h : bits BinOp.xor IntKind.i64 a b = ((BitVec.ofInt 64 a ^^^ BitVec.ofInt 64 b).toNat : Int) := h0.trans (IntWalk.i64_in _ (by omega))
  exact ⟨_, by omega, by omega, h⟩

end Go.Proofs.YtdfnclnjnmdboaaDoor
