/- Contracts: the sums of a page's columns, program and reference. -/
import Derived.Test.YtdgnhplaakjlgaaGreatDoorPsum
import Derived.Test.YtdgnhplaakjlgaaGreatDoorRErr
namespace Go.Proofs.YtdgnhplaakjlgaaGreatDoor
set_option linter.unusedVariables false
open Go.RowKit

def pl (r a c : Int) (xs : List Int) (p : Int) : List Int := if pgB r a c xs p = true then psL xs (p * (r * a)).toNat r.toNat a.toNat else []
/-- a row's element is set -/
theorem OwnI_setAt {w : World} {base e g cap m j : Nat} {L : List Int} (ho : w.ownsRow base e 1 (.slice (some ⟨g, 0, none⟩) m cap) m (L.map (Value.int .i64))) (hl : L.length = m) (hj : j < m) (y : Int) :
    w.cell? ⟨g, j, none⟩ = some (.int .i64 (L.getD j 0)) ∧ w.frozen? ⟨g, j, none⟩ = false ∧ (w.setCell ⟨g, j, none⟩ (.int .i64 y)).ownsRow base e 1 (.slice (some ⟨g, 0, none⟩) m cap) m ((L.set j y).map (Value.int .i64)) := by
  refine ⟨?_, ho.frozenAt j, ?_⟩
  · rw [ho.cellAt j (by omega)]
    simp [List.getD, hl, hj]
  · have := (ho.stored j (.int .i64 y)).1
    rwa [List.map_set]

theorem own_cap {w : World} {base : Nat} {v : Value} {xs : List Int} (h : OwnI w base v xs) : ∃ b cap, v = .slice b xs.length cap ∧ xs.length ≤ cap ∧ cap ≤ 9223372036854775807 := by
  obtain ⟨h1, h2⟩ := h
  rcases h2 with ⟨rfl, e⟩ | ⟨g, cap, cur, rfl, hg, hh, h3, h4, r⟩
  · exact ⟨none, 0, by rw [e], by omega, by omega⟩
  · exact ⟨_, cap, rfl, h3, by simp only [maxLen] at h4; omega⟩
theorem pl_len (r a c : Int) (xs : List Int) (p : Int) : (pl r a c xs p).length ≤ 60 := by
  unfold pl; split
  · rename_i h
    obtain ⟨l1, l2, l3, l4, _⟩ := lay_mul (pgB_iff h).1
    simp [psL]; omega
  · simp
theorem psL_len (xs : List Int) (s r a : Nat) : (psL xs s r a).length = a := by simp [psL]
theorem psL_succ (xs : List Int) (s r i : Nat) : psL xs s r (i + 1) = psL xs s r i ++ [csum xs (s + i * r) r] := by
  unfold psL; rw [List.range_succ, List.map_append]; rfl
end Go.Proofs.YtdgnhplaakjlgaaGreatDoor
