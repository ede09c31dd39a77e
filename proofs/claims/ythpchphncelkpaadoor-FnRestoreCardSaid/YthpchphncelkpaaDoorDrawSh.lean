/- Contracts: drawn columns. -/
import Derived.Test.YthpchphncelkpaaDoorShow
import Derived.Test.YthpchphncelkpaaDoorDrawRS
namespace Go.Proofs.YthpchphncelkpaaDoor
set_option linter.unusedVariables false
open Go.RowKit

set_option maxRecDepth 20000 in
set_option maxHeartbeats 1600000 in
theorem c_DrawShortenColumn (v : Value) (cs : List Int) (w : World) (hv : RdL w v (cs.map (Value.int .u8))) (hl : cs.length ≤ 1099511627776) (hb : ∀ n ∈ cs, (Lit.int .u8 n).wf = true) (hcap : CapOk v) :
    Calls Tryd.prog 13 #[v] w (DrawTS w) := by
  have hv0 := hv
  obtain ⟨a, cap, rfl, hv1⟩ := hv0
  clear hv1
  simp only [List.length_map] at hv hcap ⊢
  go_enter Tryd.func13, Tryd.ntmps13
  go_wp2_with fail
  refine (c_l9Open _ cs _ hv hl hb hcap).mono ?_
  rintro e w1 ⟨g, rfl, hr1, hgb, hB1⟩
  clear hb hcap hv
  have hgl := hr1.lt
  have hgw2 : ∀ k, (some g : Option Nat) = some k → k < w1.heap.size := fun k hk => by cases hk; exact hgl
  have hgw3 : ∀ k, (some g : Option Nat) = some k → w.heap.size ≤ k := fun k hk => by cases hk; exact hgb
  have hs1 := hB1.size
  have hs0 := OwnS_made w1 w1.heap.size (Nat.le_refl _)
  go_wp2_with fail
  refine (d_pick g 0 _ (w1.alloc (.cells #[] 9)) (hr1.alloc _) (by omega)).mono ?_
  rintro e w2 ⟨x, rfl, ⟨hx0, hx1⟩, hr2, hg2⟩
  have ho2 := ownsRow_kept_new hs0 hg2 hgw2
  have hB2 := (hB1.alloc hs1 _).grown hg2 (by simp; omega) hgw3
  have hs2 := hg2.size
  rw [show (w1.alloc (.cells #[] 9)).heap.size = w1.heap.size + 1 from by simp] at hs2
  obtain ⟨K, rfl⟩ : ∃ K : Nat, x = K := ⟨x.toNat, by omega⟩
  clear hs0 hB1 hr1 hg2
  go_wp2_with fail
  refine (d_pick g _ _ w2 hr2 (by omega)).mono ?_
  rintro e w3 ⟨x, rfl, ⟨hx2, hx3⟩, hr3, hg3⟩
  have ho3 := ownsRow_kept_new ho2 hg3 hgw2
  have hB3 := hB2.grown hg3 (by omega) hgw3
  have hs3 := hg3.size
  obtain ⟨n0, rfl⟩ : ∃ K : Nat, x = K := ⟨x.toNat, by omega⟩
  clear ho2 hB2 hr2 hg3
  go_wp2_with fail
  refine (d_pick g _ _ w3 hr3 (by omega)).mono ?_
  rintro e w4 ⟨x, rfl, ⟨hx4, hx5⟩, hr4, hg4⟩
  have ho4 := ownsRow_kept_new ho3 hg4 hgw2
  have hB4 := hB3.grown hg4 (by omega) hgw3
  have hs4 := hg4.size
  have hsB : w1.heap.size ≤ w4.heap.size := by omega
  obtain ⟨N, rfl⟩ : ∃ K : Nat, x = K := ⟨x.toNat, by omega⟩
  have hN : N ≤ 8 := by omega
  have hn0 : n0 ≤ 90 := by omega
  have hK : K ≤ 4 := by omega
  clear ho3 hB3 hr3 hg4 hx0 hx1 hx2 hx3 hx4 hx5
  have ho4' : OwnS w4 w1.heap.size (.slice (some ⟨w1.heap.size, 0, none⟩) 0 0) [] := ho4
  clear ho4
  go_wp2
  go_loopw [4, 6, 7] (fun v q i wr => ∃ (j n : Nat) (L : List ByteArray), j ≤ N ∧ i = .int .i64 ((N : Int) - j) ∧ n ≤ 90 + 12 * j ∧ q = .int .i64 n ∧ Hid (L.length = j) ∧ Hid (∀ s ∈ L, s.size ≤ 12) ∧ OwnS wr w1.heap.size v L ∧ IsRdB wr g (3 + j) ∧ Below w.heap.size w wr ∧ w1.heap.size ≤ wr.heap.size) (fun _ _ i _ => (intOf i).toNat)
  case atStart => exact ⟨0, n0, [], by omega, by go_num, by omega, rfl, rfl, (fun s h => by cases h), ho4', hr4, hB4, hsB⟩
  case round =>
    obtain ⟨j, n, L, hj, rfl, hn, rfl, hL, hsz, ho, hr, hB, hs⟩ := hrel
    clear ho4' hr4 hB4 hsB
    have hLl : L.length ≤ 8 := by have := hL.out; omega
    by_cases hlt : j < N
    · have hw0 : IntKind.i64.wrap (1 + (K : Int)) = ((1 + K : Nat) : Int) := by rw [IntWalk.i64_in _ (by omega)]; omega
      have hwk : (1 : Int) + (K : Int) = ((1 + K : Nat) : Int) := by omega
      have hc := c_l1Show n (1 + K) wr (by omega) (by omega) (by omega)
      rw [show (((1 + K : Nat) : Int)) = 1 + (K : Int) by omega] at hc
      clear hw0 hwk
      go_wp2_with fail
      refine hc.mono ?_
      rintro e w5 ⟨Y, rfl, hY, hB5⟩
      replace ho := ownsRow_kept_below ho hB5
      replace hr := hr.kept hB5
      replace hB := bthen hB hB5
      have hs5 := hB5.size
      have hsB5 : w1.heap.size ≤ w5.heap.size := by omega
      clear hc hB5
      go_wp2_with (at_builtin; refine app1 23 9 Tryd.underlying23 infoStr rfl (by decide) rfl _ _ rfl w1.heap.size _ _ _ rfl ho rfl rfl ?c1 ?c2 ?_)
      case c1 => omega
      case c2 => exact hsB5
      intro v' w6 ho6 hg6
      have hr6 := hr.belowS (below_grown hg6 (by omega) (fun j hj => by have := (ho.lt j hj).1; omega))
      have hB6 := hB.grown hg6 (by omega) (fun j hj => by have := (ho.lt j hj).1; omega)
      have hs6 := hg6.size
      have ho6' : OwnS w6 w1.heap.size v' (L ++ [Y]) := OwnS_snoc rfl ho6
      clear ho hg6 hr hB ho6
      go_wp2_with fail
      refine (d_pick g _ _ w6 hr6 (by omega)).mono ?_
      rintro e w7 ⟨x, rfl, ⟨hx4, hx5⟩, hr7, hg7⟩
      have hs7 := hg7.size
      have HO : Hid (OwnS w7 w1.heap.size v' (L ++ [Y]) ∧ IsRdB w7 g (3 + (j + 1)) ∧ Below w.heap.size w w7 ∧ w1.heap.size ≤ w7.heap.size ∧ (L ++ [Y]).length = j + 1 ∧ ∀ s ∈ L ++ [Y], s.size ≤ 12) :=
        ⟨ownsRow_kept_new ho6' hg7 hgw2, hr7, hB6.grown hg7 (by omega) hgw3, by omega, by rw [List.length_append, hL.out]; rfl, fun s hs => by
          rcases List.mem_append.1 hs with h9 | h9
          · exact hsz.out s h9
          · rw [List.mem_singleton] at h9; subst h9; exact hY⟩
      obtain ⟨x, rfl⟩ : ∃ K : Nat, x = K := ⟨x.toNat, by omega⟩
      have hx9 : x ≤ 12 := by omega
      clear ho6' hr6 hr7 hB6 hg7 hx4 hx5
      go_wp2
      go_roundw
      case rel => exact ⟨j + 1, n + x, L ++ [Y], by omega, by go_num, by omega, by go_num, HO.out.2.2.2.2.1, HO.out.2.2.2.2.2, HO.out.1, HO.out.2.1, HO.out.2.2.1, HO.out.2.2.2.1⟩
      case measure => simp [intOf]; omega
    · by_cases h0 : 0 < L.length
      · obtain ⟨b, cap3, rfl, hb2, hb3⟩ := ownsAt (n := L.length) (t := 9) (xs := L.map Value.string) ho h0
        have i0 : (0 : Int) < (L.length : Int) := by omega
        go_wp2_with fail
        refine (d_pick g _ _ wr hr (by omega)).mono ?_
        rintro e w5 ⟨x, rfl, ⟨hx0, hx9⟩, hr5, hg5⟩
        have ho5 := ownsRow_kept_new ho hg5 hgw2
        have hB5 := hB.grown hg5 (by omega) hgw3
        have hs5 := hg5.size
        clear ho hB hr hg5
        by_cases hx : x = 0
        · subst hx
          go_wp2_with fail
          refine (d_pick g _ _ w5 hr5 (by omega)).mono ?_
          rintro e w6 ⟨y, rfl, ⟨hy0, hy9⟩, hr6, hg6⟩
          have ho6 := ownsRow_kept_new ho5 hg6 hgw2
          have hB6 := hB5.grown hg6 (by omega) hgw3
          have hs6 := hg6.size
          have hyl : y < (L.length : Int) := by omega
          obtain ⟨k, rfl⟩ : ∃ k : Nat, y = k := ⟨y.toNat, by omega⟩
          clear ho5 hB5 hr5 hg6 hy9
          have hk : k < L.length := by omega
          go_wp2_with fail
          refine (d_strlit g _ [⟨#[]⟩, ⟨#[49, 120]⟩, ⟨#[49, 50]⟩, ⟨#[32, 49]⟩] w6 hr6 (by omega) (by decide) (by decide)).mono ?_
          rintro e w7 ⟨z, rfl, hz, hr7, hg7⟩
          have hzs : z.size ≤ 2 := (show ∀ s ∈ ([⟨#[]⟩, ⟨#[49, 120]⟩, ⟨#[49, 50]⟩, ⟨#[32, 49]⟩] : List ByteArray), s.size ≤ 2 by decide) z hz
          have ho7 := ownsRow_kept_new ho6 hg7 hgw2
          have hB7 := hB6.grown hg7 (by omega) hgw3
          have e1 := World.ownsRow.cellAt ho7 k (by omega)
          rw [List.getElem?_map, List.getElem?_eq_getElem hk, Option.map_some] at e1
          obtain ⟨u, hu⟩ : ∃ u, Value.string L[k] = u := ⟨_, rfl⟩
          rw [hu] at e1
          have e2 := World.ownsRow.frozenAt ho7 k
          have hst := (World.ownsRow.stored ho7 k (.string z)).1
          rw [← List.map_set] at hst
          have HO : Hid (OwnS (w7.setCell ⟨b, k, none⟩ (.string z)) w.heap.size (.slice (some ⟨b, 0, none⟩) L.length cap3) (L.set k z) ∧ (L.set k z).length ≤ 100 ∧ (∀ s ∈ L.set k z, s.size ≤ 200) ∧ Below w.heap.size w (w7.setCell ⟨b, k, none⟩ (.string z))) := by
            refine ⟨?_, by rw [List.length_set]; omega, fun s hs => ?_, hB7.setCell (p := ⟨b, k, none⟩) (by show w.heap.size ≤ b; omega) _⟩
            · have := ownsRow_monoS hst (show w.heap.size ≤ w1.heap.size by omega)
              unfold OwnS
              rw [List.length_set]
              exact this
            · rcases List.mem_or_eq_of_mem_set hs with h9 | h9
              · have := hsz.out s h9; omega
              · subst h9; omega
          have i1 : (0 : Int) ≤ (k : Int) := by omega
          have i2 : (k : Int) < (L.length : Int) := by omega
          clear ho6 hB6 ho7 hB7 hst hr6 hr7 hg7 hz hu
          go_wp2
          go_ret
          exact ⟨_, _, rfl, HO.out.1, HO.out.2.1, HO.out.2.2.1, HO.out.2.2.2⟩
        · have e0 : (x == 0) = false := beq_eq_false_iff_ne.2 hx
          have HO : Hid (OwnS w5 w.heap.size (.slice (some ⟨b, 0, none⟩) L.length cap3) L ∧ Below w.heap.size w w5) := ⟨ownsRow_monoS ho5 (by omega), hB5⟩
          clear ho5 hB5 hr5 hx
          go_wp2
          go_ret
          exact ⟨_, L, rfl, HO.out.1, by omega, fun s hs => by have := hsz.out s hs; omega, HO.out.2⟩
      · obtain ⟨a3, c3, rfl⟩ := owns_shape ho
        have i0 : decide ((0 : Int) < (L.length : Int)) = false := decide_eq_false (by omega)
        have i9 : ¬ (0 : Int) < (L.length : Int) := by omega
        have HO : Hid (OwnS wr w.heap.size (.slice a3 L.length c3) L ∧ Below w.heap.size w wr) := ⟨ownsRow_monoS ho (by omega), hB⟩
        clear ho hB hr
        go_wp2
        go_ret
        exact ⟨_, L, rfl, HO.out.1, by omega, fun s hs => by have := hsz.out s hs; omega, HO.out.2⟩
end Go.Proofs.YthpchphncelkpaaDoor
