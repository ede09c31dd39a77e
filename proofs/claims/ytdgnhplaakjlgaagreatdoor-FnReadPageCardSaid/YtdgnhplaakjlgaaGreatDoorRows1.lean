/- Plain lemmas on rows of strings that the call owns. No condition. -/
import Derived.Test.YtdgnhplaakjlgaaGreatDoorStr0
namespace Go.Proofs.YtdgnhplaakjlgaaGreatDoor
set_option linter.unusedVariables false
open Go.RowKit

theorem RdS_cell {w wr : World} {a : Option Addr} {n cap : Nat} {xs : List ByteArray} (h : RdS w (.slice a n cap) xs) (hB : Below w.heap.size w wr) {k : Nat} (hk : k < xs.length) :
    ∃ b o, a = some ⟨b, o, none⟩ ∧ b < w.heap.size ∧ wr.cell? ⟨b, o + k, none⟩ = some (.string (xs.getD k noS)) := by
  rcases h.op with ⟨a', cap', e1, rfl⟩ | ⟨b1, o1, c1, e0, hb1, h1⟩
  · simp at hk
  · simp only [Value.slice.injEq] at e0
    exact ⟨b1, o1, e0.1, hb1, by rw [(bcell hB).1 _ _ hb1]; exact h1 k hk⟩
theorem map_getD_endS (xs : List ByteArray) (f : ByteArray → ByteArray) : (List.range xs.length).map (fun i => Value.string (f (xs.getD i noS))) = (xs.map f).map Value.string := by
  apply List.ext_getElem
  · simp
  · intro i h1 h2; simp at h1; simp [List.getD, h1]
theorem map_take_succS {β : Type} (xs : List ByteArray) (f : ByteArray → β) (k : Nat) (hk : k < xs.length) : (xs.take (k + 1)).map f = (xs.take k).map f ++ [f (xs.getD k noS)] := by
  rw [List.take_add_one, List.map_append]
  congr 1
  simp [List.getD, hk]
theorem ownsRow_monoS {w : World} {base base' e : Nat} {size : Nat} {v : Value} {n : Nat} {xs : List Value} (h : w.ownsRow base e size v n xs) (hb : base' ≤ base) : w.ownsRow base' e size v n xs := by
  obtain ⟨h1, h2⟩ := h
  refine ⟨h1, ?_⟩
  rcases h2 with h2 | ⟨g, cap, cur, hv, hg, r⟩
  · exact .inl h2
  · exact .inr ⟨g, cap, cur, hv, by omega, r⟩
theorem OwnS_snoc {w : World} {base : Nat} {v : Value} {n : Nat} {xs : List ByteArray} {y : ByteArray} (hn : n = xs.length) (h : w.ownsRow base 9 1 v (n + 1) (xs.map Value.string ++ [.string y])) : OwnS w base v (xs ++ [y]) := by
  subst hn; unfold OwnS; simpa using h
/-- a row of strings is returned; nothing old has turned -/
def FreshS (w : World) (xs : List ByteArray) (e : Ending) (w' : World) : Prop := ∃ v, e = .returned v ∧ OwnS w' w.heap.size v xs ∧ Below w.heap.size w w'
def FreshSB (w : World) (xs : List ByteArray) (b : Bool) (e : Ending) (w' : World) : Prop := ∃ v, e = .returned (.tuple #[v, .bool b]) ∧ OwnS w' w.heap.size v xs ∧ Below w.heap.size w w'
theorem OwnS_nil (w : World) (base : Nat) : OwnS w base (.slice none 0 0) [] := World.ownsRow_nil _ _ _ _
theorem OwnS_made (w : World) (base : Nat) (h : base ≤ w.heap.size) : (w.alloc (.cells #[] 9)).ownsRow base 9 1 (.slice (some ⟨w.heap.size, 0, none⟩) 0 0) 0 [] := World.ownsRow_made w #[] 0 h (by decide) rfl
end Go.Proofs.YtdgnhplaakjlgaaGreatDoor
