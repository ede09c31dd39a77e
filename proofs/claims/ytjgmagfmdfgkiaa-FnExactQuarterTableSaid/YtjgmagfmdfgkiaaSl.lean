/- Plain lemmas on slices in memory: a slice that reads as a list of one-cell values; what stays when nothing old turns; an owned row reads as its list. No program in sight. -/
import Derived.Test.YtjgmagfmdfgkiaaFrame
import Derived.WalkSmall
namespace Go.Proofs.Ytjgmagfmdfgkiaa
set_option linter.unusedVariables false
open Go.RowKit

/-- v is a slice whose elements, one cell each, read as xs -/
def RdL (w : World) (v : Value) (xs : List Value) : Prop :=
  ∃ a cap, v = .slice a xs.length cap ∧ (xs = [] ∨ ∃ b off, a = some ⟨b, off, none⟩ ∧ b < w.heap.size ∧ ∀ i, i < xs.length → w.cell? ⟨b, off + i, none⟩ = xs[i]?)
/-- .. as a list of ints -/
def RdI (w : World) (v : Value) (xs : List Int) : Prop := RdL w v (xs.map (Value.int .i64))

theorem bthen {w wi wj : World} (h : Below w.heap.size w wi) (hb : Below wi.heap.size wi wj) : Below w.heap.size w wj := h.trans (hb.mono h.size)
theorem balloc {w wj : World} {o : Obj} (hb : Below (w.alloc o).heap.size (w.alloc o) wj) : Below w.heap.size w wj := bthen ((Below.refl _ _).alloc (Nat.le_refl _) _) hb
theorem bdrew {w wj : World} (hb : Below w.drew.heap.size w.drew wj) : Below w.heap.size w wj := bthen (Below.refl _ _).drew hb
theorem bcell {W w1 : World} (hb : Below W.heap.size W w1) : (∀ b o, b < W.heap.size → w1.cell? ⟨b, o, none⟩ = W.cell? ⟨b, o, none⟩) ∧ (∀ b o, b < W.heap.size → w1.frozen? ⟨b, o, none⟩ = W.frozen? ⟨b, o, none⟩) :=
  ⟨fun b o h => hb.cell (p := ⟨b, o, none⟩) h, fun b o h => hb.frozen (p := ⟨b, o, none⟩) h⟩
theorem ret_int {k : IntKind} {a b : Int} (h : a = b) : Ending.returned (.int k a) = .returned (.int k b) := by rw [h]
theorem ret_bool {a b : Bool} (h : a = b) : Ending.returned (.bool a) = .returned (.bool b) := by rw [h]

theorem RdL.kept {w w' : World} {v : Value} {xs : List Value} (h : RdL w v xs) (hb : Below w.heap.size w w') : RdL w' v xs := by
  obtain ⟨a, cap, rfl, h⟩ := h
  refine ⟨a, cap, rfl, ?_⟩
  rcases h with h | ⟨b, off, rfl, hlt, h⟩
  · exact .inl h
  · exact .inr ⟨b, off, rfl, by have := hb.size; omega, fun i hi => by rw [(bcell hb).1 _ _ hlt]; exact h i hi⟩
theorem RdI.kept {w w' : World} {v : Value} {xs : List Int} (h : RdI w v xs) (hb : Below w.heap.size w w') : RdI w' v xs := RdL.kept h hb

theorem RdI.nil (w : World) (a : Option Addr) (cap : Nat) : RdI w (.slice a 0 cap) [] := ⟨a, cap, rfl, .inl rfl⟩

/-- opened: the value's shape; where there is an element, its cells -/
theorem RdI.op {w : World} {v : Value} {xs : List Int} (h : RdI w v xs) :
    (∃ a cap, v = .slice a 0 cap ∧ xs = []) ∨ ∃ b off cap, v = .slice (some ⟨b, off, none⟩) xs.length cap ∧ b < w.heap.size ∧ ∀ i, i < xs.length → w.cell? ⟨b, off + i, none⟩ = some (.int .i64 (xs.getD i 0)) := by
  obtain ⟨a, cap, rfl, h⟩ := h
  rcases h with h | ⟨b, off, rfl, hlt, h⟩
  · have h : xs = [] := by simpa using h
    subst h
    exact .inl ⟨a, cap, rfl, rfl⟩
  · refine .inr ⟨b, off, cap, by simp, hlt, fun i hi => ?_⟩
    rw [h i (by simpa using hi)]
    simp [List.getD, hi]

theorem owns_RdL {w : World} {base : Nat} {e : TypeId} {v : Value} {n : Nat} {xs : List Value} (h : w.ownsRow base e 1 v n xs) : RdL w v xs := by
  obtain ⟨h1, h2⟩ := h
  rcases h2 with ⟨rfl, rfl⟩ | ⟨g, cap, cur, rfl, hg, hh, h3, h4, h5, h6⟩
  · have : xs = [] := List.eq_nil_of_length_eq_zero (by omega)
    subst this
    exact ⟨none, 0, rfl, .inl rfl⟩
  · have h1' : n = xs.length := by omega
    subst h1'
    refine ⟨_, cap, rfl, .inr ⟨g, 0, rfl, ?_, fun i hi => ?_⟩⟩
    · by_cases hlt : g < w.heap.size
      · exact hlt
      · rw [Array.getElem?_eq_none (by omega)] at hh; cases hh
    · have : w.cell? ⟨g, 0 + i, none⟩ = cur[i]? := by simp [World.cell?, hh]
      rw [this]
      have h6' : xs[i]? = (cur.toList.take (xs.length * 1))[i]? := by rw [h6]
      rw [h6', List.getElem?_take]
      simp [hi]
theorem owns_RdI {w : World} {base : Nat} {e : TypeId} {v : Value} {n : Nat} {xs : List Int} (h : w.ownsRow base e 1 v n (xs.map (Value.int .i64))) : RdI w v xs := owns_RdL h
end Go.Proofs.Ytjgmagfmdfgkiaa
