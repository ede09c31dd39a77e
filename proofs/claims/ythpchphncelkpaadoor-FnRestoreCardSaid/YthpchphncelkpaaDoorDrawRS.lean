/- Contracts: drawn plates. -/
import Derived.Test.YthpchphncelkpaaDoorDrawW
import Derived.Test.YthpchphncelkpaaDoorStereo2
import Derived.Test.YthpchphncelkpaaDoorRSt
namespace Go.Proofs.YthpchphncelkpaaDoor
set_option linter.unusedVariables false
open Go.RowKit

theorem ownsAt {w : World} {base : Nat} {t : TypeId} {v : Value} {n : Nat} {xs : List Value} (h : w.ownsRow base t 1 v n xs) (h0 : 0 < n) : ∃ b cap, v = .slice (some ⟨b, 0, none⟩) n cap ∧ base ≤ b ∧ b < w.heap.size := by
  rcases h.2 with ⟨_, h2⟩ | ⟨g, cap, cur, hv, hb, hg, _⟩
  · omega
  · refine ⟨g, cap, hv, hb, ?_⟩
    by_cases h3 : g < w.heap.size
    · exact h3
    · rw [Array.getElem?_eq_none (by omega)] at hg; cases hg
theorem keepG {wa wb : World} {b k g : Nat} {u : Value} (h : wa.cell? ⟨b, k, none⟩ = some u ∧ wa.frozen? ⟨b, k, none⟩ = false) (hg : wa.grownBy wb (some g)) (hlt : b < wa.heap.size) (hne : b ≠ g) :
    wb.cell? ⟨b, k, none⟩ = some u ∧ wb.frozen? ⟨b, k, none⟩ = false := by
  have hh := hg.block b hlt (fun e => hne (by cases e; rfl))
  constructor
  · rw [← h.1]; unfold World.cell?; simp only [hh]
  · rw [← h.2]; unfold World.frozen?; simp only [hh]
theorem plateF_sizes {xs : List ByteArray} {B : Nat} (h : ∀ s ∈ xs, s.size ≤ B) : ∀ s ∈ plateF xs, s.size ≤ B := by
  intro s hs
  unfold plateF at hs
  split at hs
  · obtain ⟨y, hy, rfl⟩ := List.mem_map.1 hs
    rw [mirS_size (lng_ge hy)]
    exact lng_bd h
  · cases hs

set_option maxRecDepth 4000 in
set_option maxHeartbeats 1600000 in
theorem c_DrawReadStereotype (v : Value) (cs : List Int) (w : World) (hv : RdL w v (cs.map (Value.int .u8))) (hl : cs.length ≤ 1099511627776) (hb : ∀ n ∈ cs, (Lit.int .u8 n).wf = true) (hcap : CapOk v) :
    Calls Tryd.prog 31 #[v] w (DrawTS w) := by
  have hv0 := hv
  obtain ⟨a, cap, rfl, hv1⟩ := hv0
  clear hv1
  simp only [List.length_map] at hv hcap ⊢
  go_enter Tryd.func31, Tryd.ntmps31
  go_wp2_with fail
  refine (c_l9Open _ cs _ hv hl hb hcap).mono ?_
  rintro e w1 ⟨g, rfl, hr1, hgb, hB1⟩
  clear hb hcap hv
  have hgl := hr1.lt
  have hgw3 : ∀ k, (some g : Option Nat) = some k → w.heap.size ≤ k := fun k hk => by cases hk; exact hgb
  have hs1 := hB1.size
  go_wp2_with fail
  refine (c_l6Words g 0 w1 hr1 (by omega)).mono ?_
  rintro e w2 ⟨v2, xs, rfl, ho2, ⟨hx1, hx2⟩, hr2, hg2⟩
  have hs2 := hg2.size
  have hB2 := hB1.grown hg2 hs1 hgw3
  clear hr1 hB1 hg2
  go_wp2_with fail
  refine (c_spec_StereotypeOf v2 xs w2 (owns_RdS ho2) (by omega) (fun s h => by have := hx2 s h; omega)).mono ?_
  rintro e w3 ⟨v3, rfl, ho3, hB⟩
  have hr3 := hr2.kept hB
  have hs3 := hB.size
  have hB3 := bthen hB2 hB
  have hgw2 : ∀ k, (some g : Option Nat) = some k → k < w2.heap.size := fun k hk => by cases hk; omega
  have hLl := plateF_len xs
  have hLs := plateF_sizes hx2
  generalize plateF xs = L at ho3 hLl hLs
  clear hB hr2 hB2 ho2 hx1 hx2
  have HLs : Hid _ := hLs
  clear hLs
  by_cases h0 : 0 < L.length
  · obtain ⟨b, cap3, rfl, hb2, hb3⟩ := ownsAt (n := L.length) (t := 9) (xs := L.map Value.string) ho3 h0
    have i0 : (0 : Int) < (L.length : Int) := by omega
    go_wp2_with fail
    refine (d_pick g _ _ w3 hr3 (by omega)).mono ?_
    rintro e w4 ⟨x, rfl, ⟨hx0, hx9⟩, hr4, hg4⟩
    have ho4 := ownsRow_kept_new ho3 hg4 hgw2
    have hB4 := hB3.grown hg4 (by omega) hgw3
    have hs4 := hg4.size
    clear ho3 hB3 hr3 hg4
    by_cases hx : x = 0
    · subst hx
      go_wp2_with fail
      refine (d_pick g _ _ w4 hr4 (by omega)).mono ?_
      rintro e w5 ⟨y, rfl, ⟨hy0, hy9⟩, hr5, hg5⟩
      have ho5 := ownsRow_kept_new ho4 hg5 hgw2
      have hB5 := hB4.grown hg5 (by omega) hgw3
      have hs5 := hg5.size
      have hyl : y < (L.length : Int) := by omega
      obtain ⟨k, rfl⟩ : ∃ k : Nat, y = k := ⟨y.toNat, by omega⟩
      clear ho4 hB4 hr4 hg5 hy9
      have hk : k < L.length := by omega
      have e0 : w5.drew.cell? ⟨b, k, none⟩ = some (.string (L.getD k noS)) := by
        have h := World.ownsRow.cellAt ho5 k (by omega)
        rw [List.getElem?_map, List.getElem?_eq_getElem hk] at h
        rw [show L.getD k noS = L[k] by simp [List.getD, hk]]
        exact h
      have e9 : w5.drew.frozen? ⟨b, k, none⟩ = false := World.ownsRow.frozenAt ho5 k
      have hys : (L.getD k noS).size ≤ 8 := HLs.out _ (by simp [List.getD, hk])
      obtain ⟨q, hq⟩ : ∃ q, L.getD k noS = q := ⟨_, rfl⟩
      rw [hq] at e0 hys
      have hk0 : w5.drew.cell? ⟨b, k, none⟩ = some (.string q) ∧ w5.drew.frozen? ⟨b, k, none⟩ = false := ⟨e0, e9⟩
      have hlt : b < w5.drew.heap.size := show b < w5.heap.size by omega
      have hne : b ≠ g := by omega
      have HO5 : Hid (w5.drew.ownsRow w2.heap.size 9 1 (.slice (some ⟨b, 0, none⟩) L.length cap3) L.length (L.map Value.string) ∧ IsRdB w5.drew g (0 + 20 + 1 + 1) ∧ Below w.heap.size w w5.drew) := ⟨ho5, hr5, hB5.drew⟩
      have i1 : (0 : Int) ≤ (k : Int) := by omega
      have i2 : (k : Int) < (L.length : Int) := by omega
      clear ho5 hr5 hB5 e0 e9 hq
      go_wp2
      have ea : ∀ o, (w5.alloc o).cell? ⟨b, k, none⟩ = some (.string q) := fun o => (keepG hk0 (World.grownBy_alloc _ o (some g)) hlt hne).1
      obtain ⟨e0, e9⟩ := hk0
      replace e0 : w5.cell? ⟨b, k, none⟩ = some (.string q) := e0
      replace e9 : w5.frozen? ⟨b, k, none⟩ = false := e9
      go_region_law (first
          | (go_simp; go_at_call 50; refine (d_strlit g (0 + 20 + 1 + 1) [⟨#[32]⟩, ⟨#[120]⟩, ⟨#[]⟩, ⟨#[49, 32]⟩] w5.drew HO5.out.2.1 (by omega) (by decide) (by decide)).mono ?_; rintro e w6 ⟨z, rfl, hz, hr6, hg6⟩; have hzs : z.size ≤ 2 := (show ∀ s ∈ ([⟨#[32]⟩, ⟨#[120]⟩, ⟨#[]⟩, ⟨#[49, 32]⟩] : List ByteArray), s.size ≤ 2 by decide) z hz; have g5 : (9223372036854775807 < z.size + q.size) = False := eq_false (by omega); obtain ⟨e6, e7⟩ := keepG (wa := w5.drew) (b := b) (k := k) (u := .string q) ⟨e0, e9⟩ hg6 hlt hne))
      all_goals
        have ho6 := ownsRow_kept_new HO5.out.1 hg6 hgw2
        have hB6 := HO5.out.2.2.grown hg6 (show w.heap.size ≤ w5.heap.size by omega) hgw3
        have hst := (World.ownsRow.stored ho6 k (.string (z ++ q))).1
        rw [← List.map_set] at hst
        have HO : Hid (OwnS (w6.setCell ⟨b, k, none⟩ (.string (z ++ q))) w.heap.size (.slice (some ⟨b, 0, none⟩) L.length cap3) (L.set k (z ++ q)) ∧ (L.set k (z ++ q)).length ≤ 100 ∧ (∀ s ∈ L.set k (z ++ q), s.size ≤ 200) ∧ Below w.heap.size w (w6.setCell ⟨b, k, none⟩ (.string (z ++ q)))) := by
          refine ⟨?_, by rw [List.length_set]; omega, fun s hs => ?_, hB6.setCell (p := ⟨b, k, none⟩) (by show w.heap.size ≤ b; omega) _⟩
          · have := ownsRow_monoS hst (show w.heap.size ≤ w2.heap.size by omega)
            unfold OwnS
            rw [List.length_set]
            exact this
          · rcases List.mem_or_eq_of_mem_set hs with h9 | h9
            · have := HLs.out s h9; omega
            · subst h9; rw [size_app]; omega
        clear ho6 hB6 hst hr6 hg6 hz e0 e9 ea
        go_wp2
        go_ret
        exact ⟨_, _, rfl, HO.out.1, HO.out.2.1, HO.out.2.2.1, HO.out.2.2.2⟩
    · have e0 : (x == 0) = false := beq_eq_false_iff_ne.2 hx
      have HO : Hid (OwnS w4 w.heap.size (.slice (some ⟨b, 0, none⟩) L.length cap3) L ∧ Below w.heap.size w w4) := ⟨ownsRow_monoS ho4 (by omega), hB4⟩
      clear ho4 hB4 hr4 hx
      go_wp2
      go_ret
      exact ⟨_, L, rfl, HO.out.1, by omega, fun s hs => by have := HLs.out s hs; omega, HO.out.2⟩
  · obtain ⟨a3, c3, rfl⟩ := owns_shape ho3
    have i0 : decide ((0 : Int) < (L.length : Int)) = false := decide_eq_false (by omega)
    have i9 : ¬ (0 : Int) < (L.length : Int) := by omega
    have HO : Hid (OwnS w3 w.heap.size (.slice a3 L.length c3) L ∧ Below w.heap.size w w3) := ⟨ownsRow_monoS ho3 (by omega), hB3⟩
    clear ho3 hB3 hr3
    go_wp2
    go_ret
    exact ⟨_, L, rfl, HO.out.1, by omega, fun s hs => by have := HLs.out s hs; omega, HO.out.2⟩
end Go.Proofs.YthpchphncelkpaaDoor
