/- Plain lemmas on slices in memory: a slice that reads as a list of one-cell values; what stays when nothing old turns; an owned row reads as its list. No program in sight. -/
import Derived.Test.YtdgnhplaakjlgaaGreatDoorFrame
import Derived.WalkSmall
namespace Go.Proofs.YtdgnhplaakjlgaaGreatDoor
set_option linter.unusedVariables false
open Go.RowKit

/-- .. as a list of ints -/
def RdI (w : World) (v : Value) (xs : List Int) : Prop := RdL w v (xs.map (Value.int .i64))

theorem bthen {w wi wj : World} (h : Below w.heap.size w wi) (hb : Below wi.heap.size wi wj) : Below w.heap.size w wj := h.trans (hb.mono h.size)
theorem balloc {w wj : World} {o : Obj} (hb : Below (w.alloc o).heap.size (w.alloc o) wj) : Below w.heap.size w wj := bthen ((Below.refl _ _).alloc (Nat.le_refl _) _) hb
theorem bdrew {w wj : World} (hb : Below w.drew.heap.size w.drew wj) : Below w.heap.size w wj := bthen (Below.refl _ _).drew hb
theorem bcell {W w1 : World} (hb : Below W.heap.size W w1) : (∀ b o, b < W.heap.size → w1.cell? ⟨b, o, none⟩ = W.cell? ⟨b, o, none⟩) ∧ (∀ b o, b < W.heap.size → w1.frozen? ⟨b, o, none⟩ = W.frozen? ⟨b, o, none⟩) :=
  ⟨fun b o h => hb.cell (p := ⟨b, o, none⟩) h, fun b o h => hb.frozen (p := ⟨b, o, none⟩) h⟩
theorem ret_int {k : IntKind} {a b : Int} (h : a = b) : Ending.returned (.int k a) = .returned (.int k b) := by rw [h]
theorem ret_bool {a b : Bool} (h : a = b) : Ending.returned (.bool a) = .returned (.bool b) := by rw [h]

theorem RdL.kept {w w' : World} {v : Value} {xs : List Value} (h : RdL w v xs) (hb : Below w.heap.size w w') : RdL w' v xs := by
  obtain ⟨a, cap, rfl, h⟩ := h
  refine ⟨a, cap, rfl, ?_⟩
  rcases h with h | ⟨b, off, rfl, hlt, h⟩
  · exact .inl h
  · exact .inr ⟨b, off, rfl, by have := hb.size; omega, fun i hi => by rw [(bcell hb).1 _ _ hlt]; exact h i hi⟩
theorem RdI.kept {w w' : World} {v : Value} {xs : List Int} (h : RdI w v xs) (hb : Below w.heap.size w w') : RdI w' v xs := RdL.kept h hb

theorem RdI.nil (w : World) (a : Option Addr) (cap : Nat) : RdI w (.slice a 0 cap) [] := ⟨a, cap, rfl, .inl rfl⟩

/-- opened: the value's shape; where there is an element, its cells -/
theorem RdI.op {w : World} {v : Value} {xs : List Int} (h : RdI w v xs) :
    (∃ a cap, v = .slice a 0 cap ∧ xs = []) ∨ ∃ b off cap, v = .slice (some ⟨b, off, none⟩) xs.length cap ∧ b < w.heap.size ∧ ∀ i, i < xs.length → w.cell? ⟨b, off + i, none⟩ = some (.int .i64 (xs.getD i 0)) := by
  obtain ⟨a, cap, rfl, h⟩ := h
  rcases h with h | ⟨b, off, rfl, hlt, h⟩
  · have h : xs = [] := by simpa using h
    subst h
    exact .inl ⟨a, cap, rfl, rfl⟩
  · refine .inr ⟨b, off, cap, by simp, hlt, fun i hi => ?_⟩
    rw [h i (by simpa using hi)]
    simp [List.getD, hi]

theorem owns_RdL {w : World} {base : Nat} {e : TypeId} {v : Value} {n : Nat} {xs : List Value} (h : w.ownsRow base e 1 v n xs) : RdL w v xs := by
  obtain ⟨h1, h2⟩ := h
  rcases h2 with ⟨rfl, rfl⟩ | ⟨g, cap, cur, rfl, hg, hh, h3, h4, h5, h6⟩
  · have : xs = [] := List.eq_nil_of_length_eq_zero (by omega)
    subst this
    exact ⟨none, 0, rfl, .inl rfl⟩
  · have h1' : n = xs.length := by omega
    subst h1'
    refine ⟨_, cap, rfl, .inr ⟨g, 0, rfl, ?_, fun i hi => ?_⟩⟩
    · by_cases hlt : g < w.heap.size
      · exact hlt
      · rw [Array.getElem?_eq_none (by omega)] at hh; cases hh
    · have : w.cell? ⟨g, 0 + i, none⟩ = cur[i]? := by simp [World.cell?, hh]
      rw [this]
      have h6' : xs[i]? = (cur.toList.take (xs.length * 1))[i]? := by rw [h6]
      rw [h6', List.getElem?_take]
      simp [hi]
theorem owns_RdI {w : World} {base : Nat} {e : TypeId} {v : Value} {n : Nat} {xs : List Int} (h : w.ownsRow base e 1 v n (xs.map (Value.int .i64))) : RdI w v xs := owns_RdL h

theorem ownsRow_kept_below {w w' : World} {base e : Nat} {size : Nat} {v : Value} {n : Nat} {xs : List Value} (h : w.ownsRow base e size v n xs) (hb : Below w.heap.size w w') : w'.ownsRow base e size v n xs := by
  obtain ⟨h1, h2⟩ := h
  refine ⟨h1, ?_⟩
  rcases h2 with h2 | ⟨g, cap, cur, hv, hg, hh, r⟩
  · exact .inl h2
  · refine .inr ⟨g, cap, cur, hv, hg, ?_, r⟩
    have hlt : g < w.heap.size := by
      by_cases hlt : g < w.heap.size
      · exact hlt
      · rw [Array.getElem?_eq_none (by omega)] at hh; cases hh
    rw [hb.block g hlt]; exact hh
/-- a row that lies below B stays where nothing below B turns -/
theorem ownsRow_kept_old {w w' : World} {base e : Nat} {size : Nat} {v : Value} {n : Nat} {xs : List Value} {B : Nat} (h : w.ownsRow base e size v n xs) (hb : Below B w w') (hl : ∀ k, v.ownBlock = some k → k < B) : w'.ownsRow base e size v n xs := by
  obtain ⟨h1, h2⟩ := h
  refine ⟨h1, ?_⟩
  rcases h2 with h2 | ⟨g, cap, cur, hv, hg, hh, r⟩
  · exact .inl h2
  · refine .inr ⟨g, cap, cur, hv, hg, ?_, r⟩
    rw [hb.block g (hl g (by rw [hv]; rfl))]; exact hh
/-- a row that lies from base on stays where a row below base is written -/
theorem ownsRow_kept_new {w w' : World} {base e : Nat} {size : Nat} {v : Value} {n : Nat} {xs : List Value} {row : Option Nat} (h : w.ownsRow base e size v n xs) (hg : w.grownBy w' row) (hr : ∀ k, row = some k → k < base) : w'.ownsRow base e size v n xs := by
  refine h.kept hg ?_
  cases hv : v.ownBlock with
  | none => exact .inl rfl
  | some k =>
    refine .inr (fun e => ?_)
    have h1 := (h.lt k hv).1
    have h2 := hr k e.symm
    omega
end Go.Proofs.YtdgnhplaakjlgaaGreatDoor
