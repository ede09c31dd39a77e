/- Lemmas and contracts for WholePlan (DrS5): plain words on memory, contracts of the functions that the law reaches. No condition but what each states. -/
import Derived.Test.YtdfnclnjnmdboaaGreatDoorMWholePlanDrT
import Derived.Test.YtdfnclnjnmdboaaGreatDoorMWholePlanEnt
namespace Go.Proofs.YtdfnclnjnmdboaaGreatDoor
set_option linter.unusedVariables false
open Go.RowKit

/-- a table and a degree are drawn -/
def DrawTD (w : World) (g P : Nat) (e : Ending) (w' : World) : Prop :=
  ∃ v xs, ∃ d : Int, e = .returned (.tuple #[v, .int .i64 d]) ∧ OwnI w' w.heap.size v xs ∧ xs.length ≤ 61 ∧ (-1 ≤ d ∧ d ≤ 7) ∧ IsRdB w' g P ∧ w.grownBy w' (some g)
set_option maxRecDepth 20000 in
set_option maxHeartbeats 1600000 in
theorem c_l5Some (g P : Nat) (w : World) (h : IsRdB w g P) (hp : P ≤ 800000) :
    Calls Tryz.prog 39 #[.pointer (some ⟨g, 0, none⟩)] w (DrawTD w g (P + 40)) := by
  have hgw := h.lt
  have HGW : Hid (∀ k, (some g : Option Nat) = some k → k < w.heap.size) := fun k hk => by cases hk; exact hgw
  go_enter Tryz.func39, Tryz.ntmps39
  go_wp2_with fail
  refine (c_l5Table g P w h (by omega)).mono ?_
  rintro e w1 ⟨v1, xs, rfl, ho1, ⟨hx1, hx2⟩, hr1, hg1⟩
  clear h
  go_wp2_with fail
  refine (d_pick g _ _ _ hr1 (by omega)).mono ?_
  rintro e w2 ⟨d0, rfl, ⟨hd0, hd1⟩, hr2, hg2⟩
  have ho2 := ownsRow_kept_new ho1 hg2 HGW.out
  have hG2 := grownBy_trans hg1 hg2
  have hd3 : d0 ≤ 3 := by omega
  clear ho1 hr1 hg1 hg2 hd1
  go_wp2_with fail
  refine (d_pick g _ _ _ hr2 (by omega)).mono ?_
  rintro e w3 ⟨x, rfl, ⟨hx0, hx1'⟩, hr3, hg3⟩
  have ho3 := ownsRow_kept_new ho2 hg3 HGW.out
  have hG3 := grownBy_trans hG2 hg3
  clear ho2 hr2 hG2 hg3 hx1'
  obtain ⟨b, cap, rfl, hb⟩ : ∃ b cap, v1 = .slice (some ⟨b, 0, none⟩) xs.length cap ∧ w.heap.size ≤ b := by
    have ho0 := ho3
    obtain ⟨_, ⟨_, h0⟩ | ⟨b, cap, cur, rfl, hb, _⟩⟩ := ho0
    · omega
    · exact ⟨b, cap, rfl, hb⟩
  by_cases hx : x = 0
  · subst hx
    have hdd := d_numlit g (P + 30 + 1 + 1) [-1, 7, 6] w3 hr3 (by omega) (by decide) (by decide)
    go_wp2_with fail
    refine hdd.mono ?_
    rintro e w4 ⟨d, rfl, hd, hr4, hg4⟩
    have ho4 := ownsRow_kept_new ho3 hg4 HGW.out
    have hG4 := grownBy_trans hG3 hg4
    have hd17 : -1 ≤ d ∧ d ≤ 7 := by simp at hd; omega
    obtain ⟨dl, dh⟩ := hd17
    clear hdd ho3 hr3 hG3 hg4 hd hd3 hd0
    go_wp2_with fail
    refine (d_pick g _ _ _ hr4 (by omega)).mono ?_
    rintro e w5 ⟨y, rfl, ⟨hy0, hy1⟩, hr5, hg5⟩
    have ho5 := ownsRow_kept_new ho4 hg5 HGW.out
    have hG5 := grownBy_trans hG4 hg5
    clear ho4 hr4 hG4 hg5 hy1
    by_cases hy : y = 0
    · subst hy
      go_wp2_with fail
      refine (d_pick g _ _ _ hr5 (by omega)).mono ?_
      rintro e w6 ⟨kk, rfl, ⟨hk0, hk1⟩, hr6, hg6⟩
      have ho6 := ownsRow_kept_new ho5 hg6 HGW.out
      have hG6 := grownBy_trans hG5 hg6
      obtain ⟨k, rfl⟩ : ∃ k : Nat, kk = k := ⟨kk.toNat, by omega⟩
      have hk : k < xs.length := by omega
      clear ho5 hr5 hG5 hg6 hk1
      have hdd := d_numlit g _ [1500, 1501, -1500, -1501] w6 hr6 (by omega) (by decide) (by decide)
      go_wp2_with fail
      refine hdd.mono ?_
      rintro e w7 ⟨z, rfl, _, hr7, hg7⟩
      have ho7 := ownsRow_kept_new ho6 hg7 HGW.out
      have hG7 := grownBy_trans hG6 hg7
      clear hdd ho6 hr6 hG6 hg7
      have e1 : ∃ u, w7.cell? ⟨b, k, none⟩ = some u := by
        rw [ho7.cellAt k (by omega)]
        exact ⟨_, List.getElem?_eq_getElem (by simp; omega)⟩
      obtain ⟨u, e1⟩ := e1
      have e2 := ho7.frozenAt k
      have ho8 := (ho7.stored k (.int .i64 z)).1
      rw [← List.map_set] at ho8
      have hsl : (xs.set k z).length = xs.length := by simp
      have ho8' : OwnI (w7.setCell ⟨b, k, none⟩ (.int .i64 z)) w.heap.size (.slice (some ⟨b, 0, none⟩) xs.length cap) (xs.set k z) := by
        unfold OwnI; rw [hsl]; exact ho8
      have hr8 := hr7.below ((Below.refl _ _).setCell (p := ⟨b, k, none⟩) (by show g + 1 ≤ b; omega) (.int .i64 z))
      have hG8 := grown_new hG7 (grownBy_setCell w7 b k (.int .i64 z)) (fun j hj => by cases hj; exact hb)
      have HBT := hidd (c_l2BadTable g _ _ (xs.set k z) w (w7.setCell ⟨b, k, none⟩ (.int .i64 z)) hr8 (by omega) ho8' (by omega) (by omega) hG8 hgw)
      clear ho7 ho8 ho8' hr7 hr8 hG7 hG8 hsl
      go_wp2_with fail
      refine HBT.out.mono ?_
      rintro e w9 ⟨v9, xs9, rfl, ho9, hl9, hr9, hG9⟩
      have HF : Hid (DrawTD w g (P + 40) (.returned (.tuple #[v9, .int .i64 d])) w9) := ⟨_, _, _, rfl, ho9, hl9, ⟨dl, dh⟩, hr9.mono (by omega), hG9⟩
      clear ho9 hr9 hG9
      go_wp2
      go_ret2
      exact HF.out
    · have hy' : (y == 0) = false := beq_eq_false_iff_ne.2 hy
      have HBT := hidd (c_l2BadTable g _ _ xs w w5 hr5 (by omega) ho5 (by omega) (by omega) hG5 hgw)
      clear ho5 hr5 hG5 hy
      go_wp2_with fail
      refine HBT.out.mono ?_
      rintro e w9 ⟨v9, xs9, rfl, ho9, hl9, hr9, hG9⟩
      have HF : Hid (DrawTD w g (P + 40) (.returned (.tuple #[v9, .int .i64 d])) w9) := ⟨_, _, _, rfl, ho9, hl9, ⟨dl, dh⟩, hr9.mono (by omega), hG9⟩
      clear ho9 hr9 hG9
      go_wp2
      go_ret2
      exact HF.out
  · have hx' : (x == 0) = false := beq_eq_false_iff_ne.2 hx
    clear hx
    go_wp2_with fail
    refine (d_pick g _ _ _ hr3 (by omega)).mono ?_
    rintro e w5 ⟨y, rfl, ⟨hy0, hy1⟩, hr5, hg5⟩
    have ho5 := ownsRow_kept_new ho3 hg5 HGW.out
    have hG5 := grownBy_trans hG3 hg5
    clear ho3 hr3 hG3 hg5 hy1
    by_cases hy : y = 0
    · subst hy
      go_wp2_with fail
      refine (d_pick g _ _ _ hr5 (by omega)).mono ?_
      rintro e w6 ⟨kk, rfl, ⟨hk0, hk1⟩, hr6, hg6⟩
      have ho6 := ownsRow_kept_new ho5 hg6 HGW.out
      have hG6 := grownBy_trans hG5 hg6
      obtain ⟨k, rfl⟩ : ∃ k : Nat, kk = k := ⟨kk.toNat, by omega⟩
      have hk : k < xs.length := by omega
      clear ho5 hr5 hG5 hg6 hk1
      have hdd := d_numlit g _ [1500, 1501, -1500, -1501] w6 hr6 (by omega) (by decide) (by decide)
      go_wp2_with fail
      refine hdd.mono ?_
      rintro e w7 ⟨z, rfl, _, hr7, hg7⟩
      have ho7 := ownsRow_kept_new ho6 hg7 HGW.out
      have hG7 := grownBy_trans hG6 hg7
      clear hdd ho6 hr6 hG6 hg7
      have e1 : ∃ u, w7.cell? ⟨b, k, none⟩ = some u := by
        rw [ho7.cellAt k (by omega)]
        exact ⟨_, List.getElem?_eq_getElem (by simp; omega)⟩
      obtain ⟨u, e1⟩ := e1
      have e2 := ho7.frozenAt k
      have ho8 := (ho7.stored k (.int .i64 z)).1
      rw [← List.map_set] at ho8
      have hsl : (xs.set k z).length = xs.length := by simp
      have ho8' : OwnI (w7.setCell ⟨b, k, none⟩ (.int .i64 z)) w.heap.size (.slice (some ⟨b, 0, none⟩) xs.length cap) (xs.set k z) := by
        unfold OwnI; rw [hsl]; exact ho8
      have hr8 := hr7.below ((Below.refl _ _).setCell (p := ⟨b, k, none⟩) (by show g + 1 ≤ b; omega) (.int .i64 z))
      have hG8 := grown_new hG7 (grownBy_setCell w7 b k (.int .i64 z)) (fun j hj => by cases hj; exact hb)
      have HBT := hidd (c_l2BadTable g _ _ (xs.set k z) w (w7.setCell ⟨b, k, none⟩ (.int .i64 z)) hr8 (by omega) ho8' (by omega) (by omega) hG8 hgw)
      clear ho7 ho8 ho8' hr7 hr8 hG7 hG8 hsl
      go_wp2_with fail
      refine HBT.out.mono ?_
      rintro e w9 ⟨v9, xs9, rfl, ho9, hl9, hr9, hG9⟩
      have HF : Hid (DrawTD w g (P + 40) (.returned (.tuple #[v9, .int .i64 d0])) w9) := ⟨_, _, _, rfl, ho9, hl9, ⟨by omega, by omega⟩, hr9.mono (by omega), hG9⟩
      clear ho9 hr9 hG9
      go_wp2
      go_ret2
      exact HF.out
    · have hy' : (y == 0) = false := beq_eq_false_iff_ne.2 hy
      have HBT := hidd (c_l2BadTable g _ _ xs w w5 hr5 (by omega) ho5 (by omega) (by omega) hG5 hgw)
      clear ho5 hr5 hG5 hy
      go_wp2_with fail
      refine HBT.out.mono ?_
      rintro e w9 ⟨v9, xs9, rfl, ho9, hl9, hr9, hG9⟩
      have HF : Hid (DrawTD w g (P + 40) (.returned (.tuple #[v9, .int .i64 d0])) w9) := ⟨_, _, _, rfl, ho9, hl9, ⟨by omega, by omega⟩, hr9.mono (by omega), hG9⟩
      clear ho9 hr9 hG9
      go_wp2
      go_ret2
      exact HF.out

def DrawTD0 (w : World) (e : Ending) (w' : World) : Prop :=
  ∃ v xs, ∃ d : Int, e = .returned (.tuple #[v, .int .i64 d]) ∧ OwnI w' w.heap.size v xs ∧ xs.length ≤ 61 ∧ (-1 ≤ d ∧ d ≤ 7) ∧ Below w.heap.size w w'
set_option maxRecDepth 20000 in
theorem c_DrawGreedyPlan (v : Value) (cs : List Int) (w : World) (hv : RdL w v (cs.map (Value.int .u8))) (hl : cs.length ≤ 1099511627776) (hb : ∀ n ∈ cs, (Lit.int .u8 n).wf = true) (hcap : CapOk v) :
    Calls Tryz.prog 13 #[v] w (DrawTD0 w) := by
  go_enter Tryz.func13, Tryz.ntmps13
  go_wp2_with fail
  refine (c_l9Open _ cs _ hv hl hb hcap).mono ?_
  rintro e w1 ⟨g, rfl, hr1, hgb, hB1⟩
  clear hb hcap hv
  go_wp2_with fail
  refine (c_l5Some g 0 w1 hr1 (by omega)).mono ?_
  rintro e w2 ⟨v2, xs, d, rfl, ho2, hl2, hd2, hr2, hG2⟩
  have HF : Hid (DrawTD0 w (.returned (.tuple #[v2, .int .i64 d])) w2) := ⟨_, _, _, rfl, ownsRow_mono ho2 hB1.size, hl2, hd2, hB1.grown hG2 hB1.size (fun k hk => by cases hk; exact hgb)⟩
  clear ho2 hr1 hr2 hG2 hB1
  go_wp2
  go_ret2
  exact HF.out
end Go.Proofs.YtdfnclnjnmdboaaGreatDoor
