/- Lemmas and contracts for WholePlan (Plan9): plain words on memory, contracts of the functions that the law reaches. No condition but what each states. -/
import Derived.Test.YtdfnclnjnmdboaaGreatDoorMWholePlanPlan6
import Derived.Test.YtdfnclnjnmdboaaGreatDoorMWholePlanDrT
namespace Go.Proofs.YtdfnclnjnmdboaaGreatDoor
set_option linter.unusedVariables false
open Go.RowKit

theorem madeSegs (n : Nat) : (madeCells #[.int .i64 0, .slice none 0 0] (n * 2)).toList = segCells (List.replicate n noR) := by
  apply List.ext_getElem?
  intro i
  by_cases hi : i < n * 2
  · have hk : i / 2 < (List.replicate n noR).length := by simp; omega
    obtain ⟨g1, g2⟩ := segCells_get (List.replicate n noR) (i / 2) hk
    have hr : (List.replicate n noR).getD (i / 2) noR = noR := by
      simp only [List.getD, List.getElem?_replicate]
      split <;> rfl
    rw [hr] at g1 g2
    have hm : (madeCells #[.int .i64 0, .slice none 0 0] (n * 2)).toList[i]? = some (#[Value.int .i64 0, .slice none 0 0][i % 2]!) := by simp [madeCells, hi]
    rw [hm]
    by_cases h2 : i % 2 = 0
    · have e : i = i / 2 * 2 := by omega
      rw [h2, e, g1]; rfl
    · have e : i = i / 2 * 2 + 1 := by omega
      have h3 : i % 2 = 1 := by omega
      rw [h3, e, g2]; rfl
  · rw [List.getElem?_eq_none (by simp [size_madeCells]; omega), List.getElem?_eq_none (by rw [segCells_len]; simp; omega)]
/-- make([]Segment, n): a new row of n empty segments -/
theorem mkfullS {P : Program} {ops : Array Oper} {rest : List Oper} {o : Oper} {a : Act} {Q : Exit → Act → World → Prop} {w : World} (t e : TypeId) {bytes : Nat}
    (ht : P.underlying t = some (.slice e)) (hi : (P.info? e).map (fun i => (i.zero, i.size, i.bytes)) = some (some (.agg #[.int .i64 0, .slice none 0 0]), 2, bytes)) (hby : bytes ≤ 64)
    (hgd : o.guard = none) (l c : Operand) (ho : o.op = Op.makeSlice t l c) {kl kc : IntKind} {L C : Int} (n : Nat) (hl : a.eval l = .int kl L) (hc : a.eval c = .int kc C) (hL : L = (n : Int)) (hC : C = (n : Int)) (hn : n ≤ 1099511627776)
    (h : ∀ w', w'.ownsRow w.heap.size e 2 (.slice (some ⟨w.heap.size, 0, none⟩) n n) n (segCells (List.replicate n noR)) → Below w.heap.size w w' → w.heap.size < w'.heap.size → wpList P ops Q rest (a.put o.dst (.slice (some ⟨w.heap.size, 0, none⟩) n n)) w') : wpList P ops Q (o :: rest) a w := by
  obtain ⟨i0, hi0, hz0, hz1, hz2⟩ := info_parts hi
  have hb : i0.bytes * n ≤ 64 * n := Nat.mul_le_mul_right _ (by omega)
  refine wpList_make_full w hgd l c t ho w.heap.size e i0 (.agg #[.int .i64 0, .slice none 0 0]) 2 ht hi0 hz0 hz1 kl kc L C n hl hc hL hC (by omega) (by simp only [maxLen]; omega) (Nat.le_refl _) ?_
  intro w' h1 h2
  have e2 : (Value.agg #[.int .i64 0, .slice none 0 0]).cells = #[.int .i64 0, .slice none 0 0] := rfl
  rw [e2, madeSegs] at h1
  exact h w' h1 (below_grown h2 (Nat.le_refl _) (fun k hk => by cases hk)) ((h1.lt w.heap.size rfl).2)
theorem segCells_fill (rs : List RSeg) (m : Nat) (c : Int) (pv : Value) : ((segCells (rs ++ List.replicate (m + 1) noR)).set (rs.length * 2) (.int .i64 c)).set (rs.length * 2 + 1) pv = segCells (rs ++ [(c, pv)] ++ List.replicate m noR) := by
  rw [segCells_append, segCells_append, segCells_append, List.replicate_succ]
  rw [List.set_append_right _ _ (by rw [segCells_len]; exact Nat.le_refl _), segCells_len, Nat.sub_self]
  rw [List.set_append_right _ _ (by rw [segCells_len]; omega), segCells_len, Nat.add_sub_cancel_left]
  simp [segCells, List.append_assoc]
/-- k segments of n are copied -/
def CopR (w : World) (base gg n : Nat) (rs : List RSeg) (pl : List Seg) : Prop :=
  rs.length ≤ n ∧ w.ownsRow base 44 2 (.slice (some ⟨gg, 0, none⟩) n n) n (segCells (rs ++ List.replicate (n - rs.length) noR)) ∧ PolysO w base rs pl ∧ ApartR rs
theorem keepB {w wa wb : World} {f : Nat} {v0 v1 : Value} (h : Below w.heap.size w wa ∧ f < wa.heap.size ∧ wa.cell? ⟨f, 0, none⟩ = some v0 ∧ wa.cell? ⟨f, 1, none⟩ = some v1) (k : Below wa.heap.size wa wb) :
    Below w.heap.size w wb ∧ f < wb.heap.size ∧ wb.cell? ⟨f, 0, none⟩ = some v0 ∧ wb.cell? ⟨f, 1, none⟩ = some v1 := by
  obtain ⟨h0, hf, h1, h2⟩ := h
  have hs := k.size
  obtain ⟨hc, _⟩ := bcell k
  exact ⟨bthen h0 k, by omega, by rw [hc _ _ hf]; exact h1, by rw [hc _ _ hf]; exact h2⟩
theorem keepSt {w wa : World} {f gg o1 o2 : Nat} {v0 v1 u1 u2 : Value} (hfg : f ≠ gg) (hg : w.heap.size ≤ gg) (h : Below w.heap.size w wa ∧ f < wa.heap.size ∧ wa.cell? ⟨f, 0, none⟩ = some v0 ∧ wa.cell? ⟨f, 1, none⟩ = some v1) :
    Below w.heap.size w ((wa.setCell ⟨gg, o1, none⟩ u1).setCell ⟨gg, o2, none⟩ u2) ∧ f < ((wa.setCell ⟨gg, o1, none⟩ u1).setCell ⟨gg, o2, none⟩ u2).heap.size ∧ ((wa.setCell ⟨gg, o1, none⟩ u1).setCell ⟨gg, o2, none⟩ u2).cell? ⟨f, 0, none⟩ = some v0 ∧ ((wa.setCell ⟨gg, o1, none⟩ u1).setCell ⟨gg, o2, none⟩ u2).cell? ⟨f, 1, none⟩ = some v1 := by
  obtain ⟨h0, hf, h1, h2⟩ := h
  refine ⟨(h0.setCell (p := ⟨gg, o1, none⟩) hg _).setCell (p := ⟨gg, o2, none⟩) hg _, by simpa [World.setCell] using hf, ?_, ?_⟩
  · rw [World.cell?_setCell_other _ _ _ _ (by simp only [ne_eq, Addr.mk.injEq]; omega), World.cell?_setCell_other _ _ _ _ (by simp only [ne_eq, Addr.mk.injEq]; omega)]; exact h1
  · rw [World.cell?_setCell_other _ _ _ _ (by simp only [ne_eq, Addr.mk.injEq]; omega), World.cell?_setCell_other _ _ _ _ (by simp only [ne_eq, Addr.mk.injEq]; omega)]; exact h2
theorem CopR.step {w0 w1 w2 : World} {base gg n : Nat} {rs : List RSeg} {pl : List Seg} {c : Int} {p : List Int} {pv : Value} (h : CopR w1 base gg n rs pl) (hk : rs.length < n) (hgb : base ≤ gg) (hlt : ∀ k, k < rs.length → ∀ j, (rs.getD k noR).2.ownBlock = some j → j < w0.heap.size) (hb : base ≤ w0.heap.size)
    (hp : OwnI w1 w0.heap.size pv p) (hw2 : w2 = (w1.setCell ⟨gg, rs.length * 2, none⟩ (.int .i64 c)).setCell ⟨gg, rs.length * 2 + 1, none⟩ pv) : CopR w2 base gg n (rs ++ [(c, pv)]) (pl ++ [(c, p)]) := by
  obtain ⟨h1, h2, h3, h4⟩ := h
  obtain ⟨m, hm⟩ : ∃ m, n - rs.length = m + 1 := ⟨n - rs.length - 1, by omega⟩
  have hm2 : n - (rs ++ [(c, pv)]).length = m := by simp; omega
  rw [hm] at h2
  have q1 := (h2.stored (rs.length * 2) (.int .i64 c)).1
  have q2 := (q1.stored (rs.length * 2 + 1) pv).1
  rw [segCells_fill] at q2
  have hg : w1.grownBy w2 (some gg) := by
    rw [hw2]
    exact grownBy_trans (grownBy_setCell w1 gg _ _) (grownBy_setCell _ gg _ _)
  have hg' : w1.grownBy w2 (Value.slice (some ⟨gg, 0, none⟩) n n).ownBlock := hg
  have hq := h3.grown h2 hg'
  have hp2 : OwnI w2 w0.heap.size pv p := World.ownsRow.kept hp hg' (seg_apart hp h2)
  have hl := h3.1
  refine ⟨by simp; omega, by rw [hm2, hw2]; exact q2, ⟨by simp [hl], fun k hk => ?_⟩, fun i j hi hj hne => ?_⟩
  · simp at hk
    rw [getD_snocR, getD_snocG]
    by_cases hkl : k < rs.length
    · rw [if_pos hkl, if_pos (by omega)]; exact hq.2 k hkl
    · rw [if_neg hkl, if_pos (by omega), if_neg (by omega), if_pos (by omega)]
      exact ⟨rfl, ownsRow_mono hp2 hb⟩
  · simp at hi hj
    rw [getD_snocR, getD_snocR]
    by_cases hil : i < rs.length
    · by_cases hjl : j < rs.length
      · rw [if_pos hil, if_pos hjl]; exact h4 i j hil hjl hne
      · rw [if_pos hil, if_neg hjl, if_pos (by omega)]
        cases hv : (rs.getD i noR).2.ownBlock with
        | none => exact .inl rfl
        | some g =>
          refine .inr (fun e => ?_)
          have a := hlt i hil g hv
          have b := (hp2.lt g e.symm).1
          omega
    · rw [if_neg hil, if_pos (by omega), if_pos (show j < rs.length by omega)]
      show pv.ownBlock = none ∨ pv.ownBlock ≠ _
      cases hv : pv.ownBlock with
      | none => exact .inl rfl
      | some g =>
        refine .inr (fun e => ?_)
        have a := hlt j (by omega) g e.symm
        have b := (hp2.lt g hv).1
        omega

end Go.Proofs.YtdfnclnjnmdboaaGreatDoor
