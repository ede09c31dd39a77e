/- Contracts: drawn shortened columns. -/
import Derived.Test.YthpchphncelkpaaDoorDrawSh
import Derived.Test.YthpchphncelkpaaDoorRestP2
namespace Go.Proofs.YthpchphncelkpaaDoor
set_option linter.unusedVariables false
open Go.RowKit

theorem shorF_sizes (xs : List ByteArray) : ∀ s ∈ shorF xs, s.size ≤ 12 := by
  intro s h
  unfold shorF at h
  split at h
  · rename_i hc
    obtain ⟨k, hk, rfl⟩ := List.mem_map.1 h
    have hk2 : k < xs.length := by simpa using hk
    rw [(shoE_facts hc hk2).1]
    exact (colB_iff ((colsB_iff hc).2 (xs.getD k noS) (by simp [List.getD, hk2])).1).2.1
  · cases h
/-- what is cut off at a string's beginning, at most one byte -/
theorem cut_one (q : ByteArray) : ∃ T : ByteArray, T.size ≤ q.size ∧ ∀ W, (Instr.slice 9 (.string q) (some (.int .i64 (min 1 (q.size : Int)))) none none).run Tryd.prog W = .ok (.string T) W := by
  by_cases h : (q.size : Int) < 1
  · obtain ⟨T, g3, h1, _⟩ := slice_fromT q q.size (Nat.le_refl _)
    exact ⟨T, h1, fun W => by rw [show min 1 (q.size : Int) = ((q.size : Nat) : Int) by omega]; exact g3 W⟩
  · obtain ⟨T, g3, h1, _⟩ := slice_fromT q 1 (by omega)
    exact ⟨T, h1, fun W => by rw [show min 1 (q.size : Int) = ((1 : Nat) : Int) by omega]; exact g3 W⟩

set_option maxRecDepth 20000 in
set_option maxHeartbeats 1600000 in
theorem c_DrawRestoreColumn (v : Value) (cs : List Int) (w : World) (hv : RdL w v (cs.map (Value.int .u8))) (hl : cs.length ≤ 1099511627776) (hb : ∀ n ∈ cs, (Lit.int .u8 n).wf = true) (hcap : CapOk v) :
    Calls Tryd.prog 24 #[v] w (DrawTS w) := by
  have hv0 := hv
  obtain ⟨a, cap, rfl, hv1⟩ := hv0
  clear hv1
  simp only [List.length_map] at hv hcap ⊢
  go_enter Tryd.func24, Tryd.ntmps24
  go_wp2_with fail
  refine (c_l9Open _ cs _ hv hl hb hcap).mono ?_
  rintro e w1 ⟨g, rfl, hr1, hgb, hB1⟩
  have hdr := c_DrawShortenColumn _ cs w1 (RdL.kept hv hB1) hl hb hcap
  clear hb hcap hv
  have hgl := hr1.lt
  have hgw3 : ∀ k, (some g : Option Nat) = some k → w.heap.size ≤ k := fun k hk => by cases hk; exact hgb
  have hs1 := hB1.size
  go_wp2_with fail
  refine hdr.mono ?_
  rintro e w2 ⟨v2, xs, rfl, ho2, hx1, hx2, hB⟩
  have hr2 := hr1.kept hB
  have hs2 := hB.size
  have hB2 := bthen hB1 hB
  clear hr1 hB1 hB hdr
  go_wp2_with fail
  refine (c_spec_ShortenColumn v2 xs w2 (owns_RdS ho2) (by omega) (fun s h => by have := hx2 s h; omega)).mono ?_
  rintro e w3 ⟨v3, rfl, ho3, hB⟩
  have hr3 := hr2.kept hB
  have hs3 := hB.size
  have hB3 := bthen hB2 hB
  have hgw2 : ∀ k, (some g : Option Nat) = some k → k < w2.heap.size := fun k hk => by cases hk; omega
  have hLl := shorF_len xs
  have hLs := shorF_sizes xs
  generalize shorF xs = L at ho3 hLl hLs
  clear hB hr2 hB2 ho2 hx1 hx2
  have HLs : Hid _ := hLs
  clear hLs
  by_cases h0 : 0 < L.length
  · obtain ⟨b, cap3, rfl, hb2, hb3⟩ := ownsAt (n := L.length) (t := 9) (xs := L.map Value.string) ho3 h0
    have i0 : (0 : Int) < (L.length : Int) := by omega
    go_wp2_with fail
    refine (d_pick g 0 _ w3 hr3 (by omega)).mono ?_
    rintro e w4 ⟨x, rfl, ⟨hx0, hx9⟩, hr4, hg4⟩
    have ho4 := ownsRow_kept_new ho3 hg4 hgw2
    have hB4 := hB3.grown hg4 (by omega) hgw3
    have hs4 := hg4.size
    clear ho3 hB3 hr3 hg4
    by_cases hx : x = 0
    · subst hx
      go_wp2_with fail
      refine (d_pick g _ _ w4 hr4 (by omega)).mono ?_
      rintro e w5 ⟨y, rfl, ⟨hy0, hy9⟩, hr5, hg5⟩
      have ho5 := ownsRow_kept_new ho4 hg5 hgw2
      have hB5 := hB4.grown hg5 (by omega) hgw3
      have hs5 := hg5.size
      have hyl : y < (L.length : Int) := by omega
      obtain ⟨k, rfl⟩ : ∃ k : Nat, y = k := ⟨y.toNat, by omega⟩
      clear ho4 hB4 hr4 hg5 hy9
      have hk : k < L.length := by omega
      have e0 : w5.cell? ⟨b, k, none⟩ = some (.string (L.getD k noS)) := by
        have h := World.ownsRow.cellAt ho5 k (by omega)
        rw [List.getElem?_map, List.getElem?_eq_getElem hk] at h
        rw [show L.getD k noS = L[k] by simp [List.getD, hk]]
        exact h
      have e9 : w5.frozen? ⟨b, k, none⟩ = false := World.ownsRow.frozenAt ho5 k
      have hys : (L.getD k noS).size ≤ 12 := HLs.out _ (by simp [List.getD, hk])
      obtain ⟨q, hq⟩ : ∃ q, L.getD k noS = q := ⟨_, rfl⟩
      rw [hq] at e0 hys
      obtain ⟨T, hT, g3⟩ := cut_one q
      have hT12 : T.size ≤ 12 := by omega
      have hlt : b < w5.drew.heap.size := show b < w5.heap.size by omega
      have hne : b ≠ g := by omega
      have HO5 : Hid (w5.drew.ownsRow w2.heap.size 9 1 (.slice (some ⟨b, 0, none⟩) L.length cap3) L.length (L.map Value.string) ∧ IsRdB w5.drew g (0 + 1 + 1) ∧ Below w.heap.size w w5.drew) := ⟨ho5, hr5, hB5.drew⟩
      have i1 : (0 : Int) ≤ (k : Int) := by omega
      have i2 : (k : Int) < (L.length : Int) := by omega
      have ea : ∀ o, (w5.alloc o).cell? ⟨b, k, none⟩ = some (.string q) := fun o => (keepG (wa := w5.drew) (b := b) (k := k) (u := .string q) ⟨e0, e9⟩ (World.grownBy_alloc _ o (some g)) hlt hne).1
      clear ho5 hr5 hB5 hq
      go_wp2
      go_region_law (first
          | (go_simp; go_at_call 50; refine (d_strlit g (0 + 1 + 1) [⟨#[32]⟩, ⟨#[49]⟩, ⟨#[32, 49]⟩, ⟨#[32, 32, 49]⟩, ⟨#[]⟩] w5.drew HO5.out.2.1 (by omega) (by decide) (by decide)).mono ?_; rintro e w6 ⟨z, rfl, hz, hr6, hg6⟩; have hzs : z.size ≤ 3 := (show ∀ s ∈ ([⟨#[32]⟩, ⟨#[49]⟩, ⟨#[32, 49]⟩, ⟨#[32, 32, 49]⟩, ⟨#[]⟩] : List ByteArray), s.size ≤ 3 by decide) z hz; have g5 : (9223372036854775807 < z.size + T.size) = False := eq_false (by omega); obtain ⟨e6, e7⟩ := keepG (wa := w5.drew) (b := b) (k := k) (u := .string q) ⟨e0, e9⟩ hg6 hlt hne))
      all_goals
        have ho6 := ownsRow_kept_new HO5.out.1 hg6 hgw2
        have hB6 := HO5.out.2.2.grown hg6 (show w.heap.size ≤ w5.heap.size by omega) hgw3
        have hst := (World.ownsRow.stored ho6 k (.string (z ++ T))).1
        rw [← List.map_set] at hst
        have HO : Hid (OwnS (w6.setCell ⟨b, k, none⟩ (.string (z ++ T))) w.heap.size (.slice (some ⟨b, 0, none⟩) L.length cap3) (L.set k (z ++ T)) ∧ (L.set k (z ++ T)).length ≤ 100 ∧ (∀ s ∈ L.set k (z ++ T), s.size ≤ 200) ∧ Below w.heap.size w (w6.setCell ⟨b, k, none⟩ (.string (z ++ T)))) := by
          refine ⟨?_, by rw [List.length_set]; omega, fun s hs => ?_, hB6.setCell (p := ⟨b, k, none⟩) (by show w.heap.size ≤ b; omega) _⟩
          · have := ownsRow_monoS hst (show w.heap.size ≤ w2.heap.size by omega)
            unfold OwnS
            rw [List.length_set]
            exact this
          · rcases List.mem_or_eq_of_mem_set hs with h9 | h9
            · have := HLs.out s h9; omega
            · subst h9; rw [size_app]; omega
        clear ho6 hB6 hst hr6 hg6 hz e0 e9 ea
        go_wp2
        go_ret
        exact ⟨_, _, rfl, HO.out.1, HO.out.2.1, HO.out.2.2.1, HO.out.2.2.2⟩
    · have e0 : (x == 0) = false := beq_eq_false_iff_ne.2 hx
      have HO : Hid (OwnS w4 w.heap.size (.slice (some ⟨b, 0, none⟩) L.length cap3) L ∧ Below w.heap.size w w4) := ⟨ownsRow_monoS ho4 (by omega), hB4⟩
      clear ho4 hB4 hr4 hx
      go_wp2
      go_ret
      exact ⟨_, L, rfl, HO.out.1, by omega, fun s hs => by have := HLs.out s hs; omega, HO.out.2⟩
  · obtain ⟨a3, c3, rfl⟩ := owns_shape ho3
    have i0 : decide ((0 : Int) < (L.length : Int)) = false := decide_eq_false (by omega)
    have i9 : ¬ (0 : Int) < (L.length : Int) := by omega
    have HO : Hid (OwnS w3 w.heap.size (.slice a3 L.length c3) L ∧ Below w.heap.size w w3) := ⟨ownsRow_monoS ho3 (by omega), hB3⟩
    clear ho3 hB3 hr3
    go_wp2
    go_ret
    exact ⟨_, L, rfl, HO.out.1, by omega, fun s hs => by have := HLs.out s hs; omega, HO.out.2⟩
end Go.Proofs.YthpchphncelkpaaDoor
