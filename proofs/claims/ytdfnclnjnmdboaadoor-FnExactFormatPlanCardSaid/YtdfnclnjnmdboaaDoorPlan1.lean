/- Plain words for plans in memory: a slice of segments that reads as a list. No condition. -/
import Derived.Test.YtdfnclnjnmdboaaDoorPoly7
namespace Go.Proofs.YtdfnclnjnmdboaaDoor
set_option linter.unusedVariables false
open Go.RowKit

/-- a segment: its count and its polynomial -/
abbrev Seg := Int × List Int
/-- a segment in memory: its count and its polynomial's slice -/
abbrev RSeg := Int × Value
def noR : RSeg := (0, .slice none 0 0)
def noG : Seg := (0, [])
def segCells : List RSeg → List Value
  | [] => []
  | s :: rs => .int .i64 s.1 :: s.2 :: segCells rs
theorem segCells_len : ∀ rs : List RSeg, (segCells rs).length = rs.length * 2
  | [] => rfl
  | s :: rs => by simp [segCells, segCells_len rs]; omega
theorem segCells_append : ∀ rs ss : List RSeg, segCells (rs ++ ss) = segCells rs ++ segCells ss
  | [], ss => rfl
  | s :: rs, ss => by simp [segCells, segCells_append rs ss]
theorem segCells_get : ∀ (rs : List RSeg) (k : Nat), k < rs.length → (segCells rs)[k * 2]? = some (.int .i64 (rs.getD k noR).1) ∧ (segCells rs)[k * 2 + 1]? = some (rs.getD k noR).2
  | [], k, h => by simp at h
  | s :: rs, 0, h => by simp [segCells]
  | s :: rs, k + 1, h => by
    have := segCells_get rs k (by simpa using h)
    rw [show (k + 1) * 2 = k * 2 + 1 + 1 by omega, show k * 2 + 1 + 1 + 1 = (k * 2 + 1) + 1 + 1 by omega]
    simpa [segCells] using this
theorem segCells_take : ∀ (rs : List RSeg) (k : Nat), segCells (rs.take k) = (segCells rs).take (k * 2)
  | [], k => by simp [segCells]
  | s :: rs, 0 => by simp [segCells]
  | s :: rs, k + 1 => by
    rw [show (k + 1) * 2 = k * 2 + 1 + 1 by omega]
    simp [segCells, segCells_take rs k]
theorem segCells_drop : ∀ (rs : List RSeg) (k : Nat), segCells (rs.drop k) = (segCells rs).drop (k * 2)
  | [], k => by simp [segCells]
  | s :: rs, 0 => by simp [segCells]
  | s :: rs, k + 1 => by
    rw [show (k + 1) * 2 = k * 2 + 1 + 1 by omega]
    simp [segCells, segCells_drop rs k]

/-- v reads as the segments rs -/
def RdR (w : World) (v : Value) (rs : List RSeg) : Prop :=
  ∃ a cap, v = .slice a rs.length cap ∧ rs.length ≤ cap ∧ (rs = [] ∨ ∃ b off, a = some ⟨b, off, none⟩ ∧ b < w.heap.size ∧ ∀ i, i < rs.length * 2 → w.cell? ⟨b, off + i, none⟩ = (segCells rs)[i]?)
theorem RdR.kept {w w' : World} {v : Value} {rs : List RSeg} (h : RdR w v rs) (hb : Below w.heap.size w w') : RdR w' v rs := by
  obtain ⟨a, cap, rfl, hc, h⟩ := h
  refine ⟨a, cap, rfl, hc, ?_⟩
  rcases h with h | ⟨b, off, rfl, hlt, h⟩
  · exact .inl h
  · exact .inr ⟨b, off, rfl, by have := hb.size; omega, fun i hi => by rw [(bcell hb).1 _ _ hlt]; exact h i hi⟩
/-- the polynomials of segments in memory read as a plan's -/
def Polys (w : World) (rs : List RSeg) (pl : List Seg) : Prop :=
  rs.length = pl.length ∧ ∀ k, k < rs.length → (rs.getD k noR).1 = (pl.getD k noG).1 ∧ RdI w (rs.getD k noR).2 (pl.getD k noG).2 ∧ CapOk (rs.getD k noR).2
theorem Polys.kept {w w' : World} {rs : List RSeg} {pl : List Seg} (h : Polys w rs pl) (hb : Below w.heap.size w w') : Polys w' rs pl :=
  ⟨h.1, fun k hk => ⟨(h.2 k hk).1, (h.2 k hk).2.1.kept hb, (h.2 k hk).2.2⟩⟩
/-- v reads as a plan -/
def RdP (w : World) (v : Value) (pl : List Seg) : Prop := ∃ rs, RdR w v rs ∧ Polys w rs pl
theorem RdP.kept {w w' : World} {v : Value} {pl : List Seg} (h : RdP w v pl) (hb : Below w.heap.size w w') : RdP w' v pl :=
  let ⟨rs, h1, h2⟩ := h; ⟨rs, h1.kept hb, h2.kept hb⟩
theorem RdP.form {w : World} {v : Value} {pl : List Seg} (h : RdP w v pl) : ∃ a cap, v = .slice a pl.length cap ∧ pl.length ≤ cap := by
  obtain ⟨rs, ⟨a, cap, rfl, hc, _⟩, h2, _⟩ := h
  exact ⟨a, cap, by rw [h2], by omega⟩
/-- the cells of segment k, in a later world -/
theorem RdP.cell {w wr : World} {a : Option Addr} {n cap : Nat} {pl : List Seg} (h : RdP w (.slice a n cap) pl) (hB : Below w.heap.size w wr) {k : Nat} (hk : k < pl.length) :
    ∃ b o pa pn pc, a = some ⟨b, o, none⟩ ∧ b < w.heap.size ∧ wr.cell? ⟨b, o + k * 2, none⟩ = some (.int .i64 (pl.getD k noG).1) ∧ wr.cell? ⟨b, o + k * 2 + 1, none⟩ = some (.slice pa pn pc) ∧ RdI w (.slice pa pn pc) (pl.getD k noG).2 ∧ pn ≤ pc ∧ pn = (pl.getD k noG).2.length := by
  obtain ⟨rs, ⟨a', cap', e, hc, h1⟩, h2, h3⟩ := h
  simp only [Value.slice.injEq] at e
  obtain ⟨rfl, rfl, rfl⟩ := e
  rcases h1 with rfl | ⟨b, off, rfl, hlt, h1⟩
  · rw [← h2] at hk; simp at hk
  · obtain ⟨p1, p2, p3⟩ := h3 k (by omega)
    obtain ⟨g1, g2⟩ := segCells_get rs k (by omega)
    have p2' := p2
    obtain ⟨pa, pc, e, _⟩ := p2'
    rw [List.length_map] at e
    refine ⟨b, off, pa, (pl.getD k noG).2.length, pc, rfl, hlt, ?_, ?_, ?_, ?_, rfl⟩
    · rw [(bcell hB).1 _ _ hlt, h1 _ (by omega), g1, p1]
    · rw [show off + k * 2 + 1 = off + (k * 2 + 1) from rfl, (bcell hB).1 _ _ hlt, h1 _ (by omega), g2, e]
    · rw [← e]; exact p2
    · exact p3 _ _ _ e
end Go.Proofs.YtdfnclnjnmdboaaDoor
