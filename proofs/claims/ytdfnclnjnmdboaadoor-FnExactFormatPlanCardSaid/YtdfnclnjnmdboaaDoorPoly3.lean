/- Contracts: first differences, the least degree of a table, the polynomial with a table; program and reference. -/
import Derived.Test.YtdfnclnjnmdboaaDoorPoly2
import Derived.Test.YtdfnclnjnmdboaaDoorApp2
namespace Go.Proofs.YtdfnclnjnmdboaaDoor
set_option linter.unusedVariables false
open Go.RowKit

theorem allIn_zero (xs : List Int) : allIn xs 0 = allZ xs := by
  unfold allIn allZ
  congr 1
  funext n
  rw [Bool.eq_iff_iff, inB_iff, beq_iff_eq]
  omega
theorem allZ_take_succ (xs : List Int) (k : Nat) (hk : k < xs.length) : allZ (xs.take (k + 1)) = (allZ (xs.take k) && (xs.getD k 0 == 0)) := by
  rw [← allIn_zero, ← allIn_zero, allIn_take xs 0 k hk]
  congr 1
  rw [Bool.eq_iff_iff, inB_iff, beq_iff_eq]
  omega
/-- a slice lies apart from a row that may grow -/
def AptV (r row : Value) : Prop := ∀ a n c, row = .slice (some a) n c → r.ownBlock ≠ some a.block
theorem RdL_grownO {w w' : World} {r v : Value} {xs : List Value} (h : RdL w v xs) (hg : w.grownBy w' r.ownBlock) (hne : AptV r v) : RdL w' v xs := by
  obtain ⟨a, cap, rfl, h⟩ := h
  refine ⟨a, cap, rfl, ?_⟩
  rcases h with h | ⟨b, off, rfl, hlt, h⟩
  · exact .inl h
  · refine .inr ⟨b, off, rfl, by have := hg.size; omega, fun i hi => ?_⟩
    have hb : w'.heap[b]? = w.heap[b]? := hg.block b hlt (fun e => hne _ _ _ rfl e.symm)
    rw [World.cell?_of_block (w := w) (a := ⟨b, off + i, none⟩) hb]
    exact h i hi
theorem AptV_new {w w' : World} {b0 e1 e2 n m : Nat} {r u : Value} {x1 x2 : List Value} (h : w.ownsRow b0 e1 1 r n x1) (hu : w'.ownsRow w.heap.size e2 1 u m x2) : AptV r u := by
  intro a n' c e hr
  have h1 := (h.lt _ hr).2
  have h2 : u.ownBlock = some a.block := by rw [e]; rfl
  have h3 := (hu.lt _ h2).1
  omega
theorem AptV_old {w w' : World} {e1 n : Nat} {r v : Value} {x1 xs : List Value} (h : w'.ownsRow w.heap.size e1 1 r n x1) (hv : ∀ a m c, v = .slice (some a) m c → a.block < w.heap.size) : AptV r v := by
  intro a m c e hr
  have h1 := (h.lt _ hr).1
  have h2 := hv a m c e
  omega
def AltV (w : World) (v : Value) : Prop := ∀ a m c, v = .slice (some a) m c → a.block < w.heap.size
def lenOf : Value → Nat
  | .slice _ n _ => n
  | _ => 0
theorem fd_take_succ (xs : List Int) (k : Nat) (h : k < xs.length) : (fd xs).take (k + 1) = (fd xs).take k ++ [(nxtN k xs).getD 0 0] := by
  rw [take_snoc_getD _ _ (by rw [fd_len]; exact h), fd_getD _ _ h]

end Go.Proofs.YtdfnclnjnmdboaaDoor
