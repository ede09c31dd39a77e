/- Lemmas and contracts for ParsePlanX (Draw Draw6): plain words on memory, contracts of the functions that the law reaches. No condition but what each states. -/
import Derived.Test.YtdfnclnjnmdboaaDoorRd
import Derived.Test.YtdfnclnjnmdboaaDoorRound
namespace Go.Proofs.YtdfnclnjnmdboaaDoor
set_option linter.unusedVariables false
open Go.RowKit

theorem RdL_grown {w w' : World} {v : Value} {xs : List Value} {g : Nat} (h : RdL w v xs) (hg : w.grownBy w' (some g)) (hne : ∀ a n c, v = .slice (some a) n c → a.block ≠ g) : RdL w' v xs := by
  obtain ⟨a, cap, rfl, h⟩ := h
  refine ⟨a, cap, rfl, ?_⟩
  rcases h with h | ⟨b, off, rfl, hlt, h⟩
  · exact .inl h
  · refine .inr ⟨b, off, rfl, by have := hg.size; omega, fun i hi => ?_⟩
    have hb : w'.heap[b]? = w.heap[b]? := hg.block b hlt (fun e => hne _ _ _ rfl (by cases e; rfl))
    rw [World.cell?_of_block (w := w) (a := ⟨b, off + i, none⟩) hb]
    exact h i hi
theorem RdI_lit (w : World) (xs : List Int) (t : TypeId) (c : Nat) : RdI (w.alloc (.cells (xs.map (Value.int .i64)).toArray t)) (.slice (some ⟨w.heap.size, 0, none⟩) xs.length c) xs := by
  refine ⟨some ⟨w.heap.size, 0, none⟩, c, by simp, ?_⟩
  by_cases h : xs = []
  · left; simp [h]
  · right
    refine ⟨w.heap.size, 0, rfl, by simp, fun i hi => ?_⟩
    simp [go_sem, World.cell?_alloc_at]

theorem RdL_take {w : World} {a : Option Addr} {n cap k : Nat} {xs : List Value} (h : RdL w (.slice a n cap) xs) (hk : k ≤ xs.length) : RdL w (.slice a k cap) (xs.take k) := by
  obtain ⟨a2, cap2, e, h⟩ := h
  simp only [Value.slice.injEq] at e
  obtain ⟨rfl, _, rfl⟩ := e
  refine ⟨a, cap, by simp [Nat.min_eq_left hk], ?_⟩
  rcases h with h | ⟨b, off, rfl, hlt, h⟩
  · exact .inl (by simp [h])
  · refine .inr ⟨b, off, rfl, hlt, fun i hi => ?_⟩
    have hi' : i < k ∧ i < xs.length := by simp at hi; omega
    rw [h i hi'.2, List.getElem?_take, if_pos hi'.1]
end Go.Proofs.YtdfnclnjnmdboaaDoor

namespace Go.Proofs.YtdfnclnjnmdboaaDoor
set_option linter.unusedVariables false
open Go.RowKit

theorem ne_of_new {w : World} {g n c : Nat} (h : g < w.heap.size) : ∀ a l k, Value.slice (some ⟨w.heap.size, 0, none⟩) n c = .slice (some a) l k → a.block ≠ g := by
  intro a l k e
  simp only [Value.slice.injEq, Option.some.injEq] at e
  obtain ⟨rfl, _, _⟩ := e
  show w.heap.size ≠ g
  omega
def DrawRR (w : World) (e : Ending) (w' : World) : Prop := ∃ n d way : Int, e = .returned (.tuple #[.int .i64 n, .int .i64 d, .int .i64 way]) ∧ (-1 ≤ d ∧ d ≤ 7) ∧ Below w.heap.size w w'
end Go.Proofs.YtdfnclnjnmdboaaDoor
