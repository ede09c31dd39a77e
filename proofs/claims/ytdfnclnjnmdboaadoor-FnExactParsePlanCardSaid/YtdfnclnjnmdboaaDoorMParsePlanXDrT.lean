/- Lemmas and contracts for ParsePlanX (DrT DrP): plain words on memory, contracts of the functions that the law reaches. No condition but what each states. -/
import Derived.Test.YtdfnclnjnmdboaaDoorMParsePlanXPlan6
import Derived.Test.YtdfnclnjnmdboaaDoorMParsePlanXEnt
namespace Go.Proofs.YtdfnclnjnmdboaaDoor
set_option linter.unusedVariables false
open Go.RowKit

theorem litI (w : World) (xs : List Int) (n : Nat) (hn : xs.length = n) (hx : n ≤ 1000) : OwnI (w.alloc (.cells (xs.map (Value.int .i64)).toArray 3)) w.heap.size (.slice (some ⟨w.heap.size, 0, none⟩) n n) xs := by
  subst hn
  exact ⟨by simp, .inr ⟨w.heap.size, xs.length, (xs.map (Value.int .i64)).toArray, rfl, Nat.le_refl _, heap_alloc_new w _, Nat.le_refl _, by simp only [maxLen]; omega, by simp, by simp [List.take_of_length_le]⟩⟩
theorem made1I (w : World) (x : Int) : OwnI (w.alloc (.cells #[.int .i64 x] 3)) w.heap.size (.slice (some ⟨w.heap.size, 0, none⟩) 1 1) [x] := litI w [x] 1 rfl (by decide)
theorem apart_new {w : World} {b e s n : Nat} {v : Value} {xs : List Value} (h : w.ownsRow b e s v n xs) (k c : Nat) : v.ownBlock = none ∨ v.ownBlock ≠ (Value.slice (some ⟨w.heap.size, 0, none⟩) k c).ownBlock := by
  cases hv : v.ownBlock with
  | none => exact .inl rfl
  | some j =>
    refine .inr (fun e => ?_)
    have := (h.lt j hv).2
    simp [Value.ownBlock] at e
    omega
theorem grown_alloc {w0 w : World} {g : Nat} (h : w0.grownBy w (some g)) (o : Obj) : w0.grownBy (w.alloc o) (some g) := grownBy_trans h (World.grownBy_alloc _ _ _)
/-- small numbers, as the drawn ones are -/
def smallC (p : List Int) : Prop := ∀ x ∈ p, -100 ≤ x ∧ x ≤ 100
theorem smallC.ok {p : List Int} (h : smallC p) (hl : p.length ≤ 7) : evalOk p := ⟨hl, fun x hx => by have := h x hx; omega⟩

end Go.Proofs.YtdfnclnjnmdboaaDoor

namespace Go.Proofs.YtdfnclnjnmdboaaDoor
set_option linter.unusedVariables false
open Go.RowKit

theorem PolysO.keptNew {w w' : World} {base : Nat} {rs : List RSeg} {pl : List Seg} {row : Option Nat} (h : PolysO w base rs pl) (hg : w.grownBy w' row) (hr : ∀ k, row = some k → k < base) : PolysO w' base rs pl :=
  ⟨h.1, fun k hk => ⟨(h.2 k hk).1, ownsRow_kept_new (h.2 k hk).2 hg hr⟩⟩
theorem OwP.keptNew {w w' : World} {base : Nat} {v : Value} {pl : List Seg} {row : Option Nat} (h : OwP w base v pl) (hg : w.grownBy w' row) (hr : ∀ k, row = some k → k < base) : OwP w' base v pl :=
  let ⟨rs, h1, h2, h3⟩ := h; ⟨rs, ownsRow_kept_new h1 hg hr, h2.keptNew hg hr, h3⟩
theorem segCells_set1 : ∀ (rs : List RSeg) (k : Nat) (c : Int), k < rs.length → segCells (rs.set k (c, (rs.getD k noR).2)) = (segCells rs).set (k * 2) (.int .i64 c)
  | [], k, c, h => by simp at h
  | s :: rs, 0, c, h => by simp [segCells]
  | s :: rs, k + 1, c, h => by
    have := segCells_set1 rs k c (by simpa using h)
    rw [show (k + 1) * 2 = k * 2 + 1 + 1 by omega]
    simp only [List.set_cons_succ, segCells, List.getD_cons_succ]
    rw [this]
theorem segCells_set2 : ∀ (rs : List RSeg) (k : Nat) (v : Value), k < rs.length → segCells (rs.set k ((rs.getD k noR).1, v)) = (segCells rs).set (k * 2 + 1) v
  | [], k, c, h => by simp at h
  | s :: rs, 0, c, h => by simp [segCells]
  | s :: rs, k + 1, c, h => by
    have := segCells_set2 rs k c (by simpa using h)
    rw [show (k + 1) * 2 + 1 = k * 2 + 1 + 1 + 1 by omega]
    simp only [List.set_cons_succ, segCells, List.getD_cons_succ]
    rw [this]
theorem getD_setR (rs : List RSeg) (k i : Nat) (s : RSeg) (h : k < rs.length) : (rs.set k s).getD i noR = if i = k then s else rs.getD i noR := by
  by_cases e : i = k
  · subst e; simp [List.getD, h]
  · simp [List.getD, e, List.getElem?_set_ne (Ne.symm e)]
theorem getD_setG (rs : List Seg) (k i : Nat) (s : Seg) (h : k < rs.length) : (rs.set k s).getD i noG = if i = k then s else rs.getD i noG := by
  by_cases e : i = k
  · subst e; simp [List.getD, h]
  · simp [List.getD, e, List.getElem?_set_ne (Ne.symm e)]
/-- a segment is set -/
theorem OwP_set {w w' : World} {base gg cap k : Nat} {rs : List RSeg} {pl : List Seg} {c : Int} {p : List Int} {pv : Value} (h1 : w.ownsRow base 39 2 (.slice (some ⟨gg, 0, none⟩) rs.length cap) rs.length (segCells rs))
    (h2 : PolysO w base rs pl) (h3 : ApartR (rs.set k (c, pv))) (hk : k < rs.length) (hp : OwnI w base pv p) (hg : w.grownBy w' (some gg))
    (ho : w'.ownsRow base 39 2 (.slice (some ⟨gg, 0, none⟩) rs.length cap) rs.length (segCells (rs.set k (c, pv)))) : OwP w' base (.slice (some ⟨gg, 0, none⟩) rs.length cap) (pl.set k (c, p)) := by
  have hl := h2.1
  refine ⟨rs.set k (c, pv), by rw [List.length_set]; exact ho, ⟨by simp [hl], fun i hi => ?_⟩, h3⟩
  rw [List.length_set] at hi
  rw [getD_setR _ _ _ _ hk, getD_setG _ _ _ _ (by omega)]
  have hg' : w.grownBy w' (Value.slice (some ⟨gg, 0, none⟩) rs.length cap).ownBlock := hg
  by_cases e : i = k
  · rw [if_pos e, if_pos e]
    exact ⟨rfl, World.ownsRow.kept hp hg' (seg_apart hp h1)⟩
  · rw [if_neg e, if_neg e]
    exact (h2.grown h1 hg').2 i hi
theorem ApartR.set {rs : List RSeg} (h : ApartR rs) {k : Nat} {c : Int} {pv : Value} (hk : k < rs.length) (hp : ∀ i, i < rs.length → i ≠ k → (pv.ownBlock = none ∨ pv.ownBlock ≠ (rs.getD i noR).2.ownBlock)) : ApartR (rs.set k (c, pv)) := by
  intro i j hi hj hne
  rw [List.length_set] at hi hj
  rw [getD_setR _ _ _ _ hk, getD_setR _ _ _ _ hk]
  by_cases e : i = k
  · rw [if_pos e, if_neg (by omega)]
    exact hp j hj (by omega)
  · rw [if_neg e]
    by_cases e2 : j = k
    · rw [if_pos e2]
      exact apart_comm (hp i hi e)
    · rw [if_neg e2]; exact h i j hi hj hne
/-- bounds of drawn plans -/
def PlD (pl : List Seg) : Prop := pl.length ≤ 62 ∧ ∀ s ∈ pl, s.2.length ≤ 7
theorem PlD.set {pl : List Seg} (h : PlD pl) (k : Nat) {s : Seg} (hs : s.2.length ≤ 7) : PlD (pl.set k s) :=
  ⟨by rw [List.length_set]; exact h.1, fun x hx => by
    rcases List.mem_or_eq_of_mem_set hx with hx | rfl
    · exact h.2 x hx
    · exact hs⟩
/-- a written plan of one segment -/
theorem litP (w : World) (base : Nat) (hb : base ≤ w.heap.size) (c : Int) (xs : List Int) (n : Nat) (hn : xs.length = n) (hx : n ≤ 1000) :
    OwP ((w.alloc (.cells (xs.map (Value.int .i64)).toArray 3)).alloc (.cells #[.int .i64 c, .slice (some ⟨w.heap.size, 0, none⟩) n n] 39)) base (.slice (some ⟨w.heap.size + 1, 0, none⟩) 1 1) [(c, xs)] := by
  have hp := litI w xs n hn hx
  refine ⟨[(c, .slice (some ⟨w.heap.size, 0, none⟩) n n)], ?_, ⟨rfl, fun k hk => ?_⟩, fun i j hi hj hne => by simp at hi hj; omega⟩
  · have := heap_alloc_new (w.alloc (.cells (xs.map (Value.int .i64)).toArray 3)) (.cells #[.int .i64 c, .slice (some ⟨w.heap.size, 0, none⟩) n n] 39)
    refine ⟨rfl, .inr ⟨w.heap.size + 1, 1, #[.int .i64 c, .slice (some ⟨w.heap.size, 0, none⟩) n n], rfl, by omega, ?_, Nat.le_refl _, by decide, rfl, rfl⟩⟩
    simpa using this
  · obtain rfl : k = 0 := by simp at hk; omega
    exact ⟨rfl, ownsRow_mono (World.ownsRow.alloc hp _) hb⟩

theorem gr_ne {xs : List Int} {d : Int} (h : grB xs d = true) : 1 ≤ (grL xs d).length := by
  unfold grL
  rw [if_pos h]
  unfold grB at h
  rw [Bool.and_eq_true] at h
  obtain ⟨hs, h1⟩ := smallB_iff.1 h.1
  have hd := inB_iff.1 h.2
  exact (planB_iff.1 (gr_plan hd.1 hd.2 hs h1).1).1
theorem below_grownS {w w' : World} {g : Nat} (h : Below w.heap.size w w') : w.grownBy w' (some g) := ⟨h.os, h.tape, h.output, h.size, fun i hi _ => h.block i hi⟩
end Go.Proofs.YtdfnclnjnmdboaaDoor
