/- Lemmas and contracts for ParsePlanX (SegO): plain words on memory, contracts of the functions that the law reaches. No condition but what each states. -/
import Derived.Test.YtdfnclnjnmdboaaDoorMParsePlanXSegL1
import Derived.Deep.SlicePairs
namespace Go.Proofs.YtdfnclnjnmdboaaDoor
set_option linter.unusedVariables false
open Go.ChangeShapes Go.WideShapes Go.ChangeAt Go.RowKit

set_option maxRecDepth 100000 in
theorem open_intsC {H : Type} {enc : TypeId × Value → H} {W : World} {fuel : Nat} {u : Value} {x : DataW H × List MemPlace} (hf : DataW.trod enc Tryd.prog W 0 (fun _ => true) true fuel 34 [u] = some x) :
    ∃ xs : List Int, RdI W u xs ∧ xs.length ≤ 9223372036854775807 ∧ CapOk u := by
  rcases Go.ChangeShapes.open_ints Tryd.underlying34 Tryd.underlying3 (by kernel_rfl) hf with ⟨hcs, _⟩ | ⟨a, len', cap', zs, hcs, _, hl, hm, hz, _, hcell, hwf⟩
  · have e : u = .slice none 0 0 := by simpa using hcs
    rw [e]
    exact ⟨[], ⟨none, 0, rfl, .inl rfl⟩, by simp, fun a l c h => by simp only [Value.slice.injEq] at h; omega⟩
  · have e : u = .slice (some a) len' cap' := by simpa using hcs
    rw [e]
    have hz' : zs.length = cap' := by simpa using hz
    have hm' : cap' ≤ 9223372036854775807 := by simpa [maxLen] using hm
    refine ⟨zs.take len', ?_, by simp; omega, fun a l c h => by simp only [Value.slice.injEq] at h; omega⟩
    unfold RdI
    rw [List.map_take]
    refine RdL_of_cells (by simp; omega) (fun i hi => ?_)
    have hi' : i < zs.length := by simpa using hi
    rw [hcell i hi']
    simp [List.getD, hi']
theorem segCells_at (f : Nat → RSeg) (n i : Nat) (hi : i < n * 2) : (segCells ((List.range n).map f))[i]? = some (if i % 2 = 0 then .int .i64 (f (i / 2)).1 else (f (i / 2)).2) := by
  have hk : i / 2 < ((List.range n).map f).length := by simp; omega
  obtain ⟨g1, g2⟩ := segCells_get ((List.range n).map f) (i / 2) hk
  have e : ((List.range n).map f).getD (i / 2) noR = f (i / 2) := by simp [List.getD, show i / 2 < n by omega]
  rw [e] at g1 g2
  by_cases h2 : i % 2 = 0
  · rw [if_pos h2, ← g1]; congr 1; omega
  · rw [if_neg h2, ← g2]; congr 1; omega
set_option maxRecDepth 100000 in
theorem open_segs {H : Type} {enc : TypeId × Value → H} {W : World} {base : Nat} {v : Value} {d : DataW H} {p : List MemPlace} {r : Reach}
    (hv : Value.okWide Tryd.prog W r base 22 v) (h : DataW.Trod enc Tryd.prog W 0 (fun _ => true) true 22 v d p) :
    ∃ pl : List Seg, RdP W v pl ∧ pl.length ≤ 9223372036854775807 ∧ ∀ s ∈ pl, s.2.length ≤ 9223372036854775807 := by
  obtain ⟨a0, len, cap, rfl⟩ := okWide_slice Tryd.underlying22 hv
  obtain ⟨fuel, hf⟩ := h
  rcases Go.Deep.open_slice_pairs Tryd.underlying22 Tryd.underlying36 (by kernel_rfl) rfl rfl (by kernel_rfl) (by kernel_rfl) hf with ⟨hcs, _⟩ | ⟨a, len', cap', m, n, V0, V1, D0, D1, P0, P1, hcs, _, hl, hm, hmm, _, hx⟩
  · have e : Value.slice a0 len cap = .slice none 0 0 := by simpa [Value.cells] using hcs
    rw [e]
    exact ⟨[], ⟨[], ⟨none, 0, rfl, Nat.le_refl _, .inl rfl⟩, rfl, fun k hk => by simp at hk⟩, by simp, by simp⟩
  · have e : Value.slice a0 len cap = .slice (some a) len' cap' := by simpa [Value.cells] using hcs
    rw [e]
    have hmm' : m = cap' := by simpa using hmm
    have hm' : cap' ≤ 9223372036854775807 := by simpa [maxLen] using hm
    have each : ∀ i, i < len' → ∃ q : Int × List Int, W.cell? (a.add (i * 2)) = some (.int .i64 q.1) ∧ W.cell? (a.add (i * 2 + 1)) = some (V1 i) ∧ RdI W (V1 i) q.2 ∧ q.2.length ≤ 9223372036854775807 ∧ CapOk (V1 i) := by
      intro i hi
      obtain ⟨h1, h2, h3, h4⟩ := hx i (by omega)
      obtain ⟨c, hc, _⟩ := DataW.trod_int (k := .i64) Tryd.underlying3 h3
      obtain ⟨xs, q1, q2, q3⟩ := open_intsC h4
      have hc' : V0 i = .int .i64 c := by simpa using hc
      exact ⟨(c, xs), by rw [h1, hc'], h2, q1, q2, q3⟩
    obtain ⟨q, hq⟩ := Go.Deep.choose_lt each
    have hgR : ∀ k, k < len' → ((List.range len').map fun i => ((q i).1, V1 i)).getD k noR = ((q k).1, V1 k) := fun k hk => by simp [List.getD, hk]
    have hgG : ∀ k, k < len' → ((List.range len').map q).getD k noG = q k := fun k hk => by simp [List.getD, hk]
    refine ⟨(List.range len').map q, ⟨(List.range len').map fun i => ((q i).1, V1 i), ⟨some a, cap', by simp, by simpa using hl, ?_⟩, by simp, fun k hk => ?_⟩, by simp; omega, fun s hs => ?_⟩
    · by_cases h0 : len' = 0
      · exact .inl (by simp [h0])
      · refine .inr ?_
        have h1 := (hq 0 (by omega)).1
        obtain ⟨b, off, sp⟩ := a
        have e0 : (⟨b, off, sp⟩ : Addr).add (0 * 2) = ⟨b, off, sp⟩ := by simp [Addr.add]
        rw [e0] at h1
        have hc : W.cell? ⟨b, off, sp⟩ ≠ none := by rw [h1]; simp
        have hsp : sp = none := by
          cases sp with
          | none => rfl
          | some s =>
            exfalso; apply hc
            unfold World.cell?
            split <;> simp
        subst hsp
        refine ⟨b, off, rfl, ?_, fun i hi => ?_⟩
        · by_cases hb : b < W.heap.size
          · exact hb
          · exfalso; apply hc
            unfold World.cell?
            rw [Array.getElem?_eq_none (show W.heap.size ≤ b by omega)]
        · have hi' : i < len' * 2 := by simpa using hi
          rw [segCells_at _ _ _ hi']
          obtain ⟨q1, q2, _⟩ := hq (i / 2) (by omega)
          rw [addr_add] at q1 q2
          by_cases h2 : i % 2 = 0
          · rw [if_pos h2, ← q1]; congr 2; omega
          · rw [if_neg h2, ← q2]; congr 2; omega
    · have hk' : k < len' := by simpa using hk
      rw [hgR k hk', hgG k hk']
      obtain ⟨_, _, q3, _, q5⟩ := hq k hk'
      exact ⟨rfl, q3, q5⟩
    · simp at hs
      obtain ⟨i, hi, rfl⟩ := hs
      exact (hq i hi).2.2.2.1
end Go.Proofs.YtdfnclnjnmdboaaDoor
