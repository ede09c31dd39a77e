/- Lemmas and contracts for WholePlan (Ent Bad): plain words on memory, contracts of the functions that the law reaches. No condition but what each states. -/
import Derived.Test.YtdfnclnjnmdboaaGreatDoorMWholePlanRd
import Derived.Test.YtdfnclnjnmdboaaGreatDoorMWholePlanTab
import Derived.Test.YtdfnclnjnmdboaaGreatDoorMWholePlanApp
import Derived.Test.YtdfnclnjnmdboaaGreatDoorMWholePlanSapp
namespace Go.Proofs.YtdfnclnjnmdboaaGreatDoor
set_option linter.unusedVariables false
open Go.RowKit

/-- a source stays where nothing up to its block turns -/
theorem IsRdB.below {w w' : World} {g P : Nat} (h : IsRdB w g P) (hb : Below (g + 1) w w') : IsRdB w' g P := by
  obtain ⟨p, h1, v, cs, h2, h3, h4, h5, h6⟩ := h
  refine ⟨p, h1, v, cs, by rw [hb.block g (by omega)]; exact h2, ?_, h4, h5, h6⟩
  obtain ⟨a, cap, rfl, h7⟩ := h3
  refine ⟨a, cap, rfl, ?_⟩
  rcases h7 with h7 | ⟨b, off, rfl, hlt, h7⟩
  · exact .inl h7
  · rcases h6 with rfl | h6
    · exact .inl rfl
    · have hbg : b < g := h6 _ _ _ rfl
      exact .inr ⟨b, off, rfl, by have := hb.size; omega, fun i hi => by rw [hb.cell (p := ⟨b, off + i, none⟩) (by show b < _; omega)]; exact h7 i hi⟩
/-- a row of numbers is drawn: the source's block alone is written, the row is new -/
def DrawRow (w : World) (g P : Nat) (Q : List Int → Prop) (e : Ending) (w' : World) : Prop :=
  ∃ v xs, e = .returned v ∧ OwnI w' w.heap.size v xs ∧ Q xs ∧ IsRdB w' g P ∧ w.grownBy w' (some g)

end Go.Proofs.YtdfnclnjnmdboaaGreatDoor

namespace Go.Proofs.YtdfnclnjnmdboaaGreatDoor
set_option linter.unusedVariables false
open Go.RowKit

/-- a row of numbers is returned, of the call's own since the world w0; nothing older has turned but the source -/
def DrawTb (w0 : World) (g P : Nat) (e : Ending) (w' : World) : Prop :=
  ∃ v xs, e = .returned v ∧ OwnI w' w0.heap.size v xs ∧ xs.length ≤ 61 ∧ IsRdB w' g P ∧ w0.grownBy w' (some g)

set_option maxRecDepth 20000 in
set_option maxHeartbeats 800000 in
theorem c_l2BadTable (g P : Nat) (v : Value) (xs : List Int) (w0 w : World) (h : IsRdB w g P) (hp : P ≤ 900000) (ho : OwnI w w0.heap.size v xs) (hx : 1 ≤ xs.length) (hx2 : xs.length ≤ 60) (hG : w0.grownBy w (some g)) (hg : g < w0.heap.size) :
    Calls Tryz.prog 81 #[.pointer (some ⟨g, 0, none⟩), v] w (DrawTb w0 g (P + 3)) := by
  have hgw : ∀ k, (some g : Option Nat) = some k → k < w0.heap.size := fun k hk => by cases hk; exact hg
  obtain ⟨b, cap, rfl, hb⟩ : ∃ b cap, v = .slice (some ⟨b, 0, none⟩) xs.length cap ∧ w0.heap.size ≤ b := by
    have ho0 := ho
    unfold OwnI at ho0
    obtain ⟨_, ⟨_, h0⟩ | ⟨b, cap, cur, rfl, hb, _⟩⟩ := ho0
    · omega
    · exact ⟨b, cap, rfl, hb⟩
  go_enter Tryz.func81, Tryz.ntmps81
  go_wp2_with fail
  refine (d_pick g P _ w h (by omega)).mono ?_
  rintro e w1 ⟨kk, rfl, ⟨hk0, hk1⟩, hr1, hg1⟩
  replace ho := ownsRow_kept_new ho hg1 hgw
  replace hG := grownBy_trans hG hg1
  obtain ⟨k, rfl⟩ : ∃ k : Nat, kk = k := ⟨kk.toNat, by omega⟩
  have hk : k < xs.length := by omega
  clear hg1 h hk1
  go_wp2_with fail
  refine (d_pick g (P + 1) _ w1 hr1 (by omega)).mono ?_
  rintro e w2 ⟨x, rfl, ⟨hx0, hx1⟩, hr2, hg2⟩
  replace ho := ownsRow_kept_new ho hg2 hgw
  replace hG := grownBy_trans hG hg2
  clear hg2 hr1
  by_cases h0 : x = 0
  · subst h0
    go_wp2_with fail
    have hd := d_numlit g (P + 1 + 1) [1000000000, 1000000001, -1000000001, 9223372036854775807] w2 hr2 (by omega) (by decide) (by decide)
    refine hd.mono ?_
    rintro e w3 ⟨z, rfl, _, hr3, hg3⟩
    replace ho := ownsRow_kept_new ho hg3 hgw
    replace hG := grownBy_trans hG hg3
    clear hd hg3 hr2
    have e1 : ∃ u, w3.cell? ⟨b, k, none⟩ = some u := by
      rw [ho.cellAt k (by omega)]
      exact ⟨_, List.getElem?_eq_getElem (by simp; omega)⟩
    obtain ⟨u, e1⟩ := e1
    have e2 := ho.frozenAt k
    have ho2 := (ho.stored k (.int .i64 z)).1
    rw [← List.map_set] at ho2
    have HO : Hid (OwnI (w3.setCell ⟨b, k, none⟩ (.int .i64 z)) w0.heap.size (.slice (some ⟨b, 0, none⟩) xs.length cap) (xs.set k z) ∧ IsRdB (w3.setCell ⟨b, k, none⟩ (.int .i64 z)) g (P + 3) ∧ w0.grownBy (w3.setCell ⟨b, k, none⟩ (.int .i64 z)) (some g)) :=
      ⟨by unfold OwnI; rw [List.length_set]; exact ho2, hr3.below ((Below.refl _ _).setCell (p := ⟨b, k, none⟩) (by show g + 1 ≤ b; omega) _), grown_new hG (grownBy_setCell w3 b k _) (fun j hj => by cases hj; exact hb)⟩
    clear ho ho2 hG hr3
    go_wp2
    go_ret
    exact ⟨_, xs.set k z, rfl, HO.out.1, by rw [List.length_set]; omega, HO.out.2.1, HO.out.2.2⟩
  · have e0 : (x == 0) = false := beq_eq_false_iff_ne.2 h0
    by_cases h1 : x = 1
    · subst h1
      have HO : Hid (OwnI w2 w0.heap.size (.slice (some ⟨b, 0, none⟩) 0 cap) [] ∧ IsRdB w2 g (P + 3) ∧ w0.grownBy w2 (some g)) := by
        refine ⟨?_, hr2.mono (by omega), hG⟩
        unfold OwnI at ho ⊢
        obtain ⟨_, ⟨_, h0⟩ | ⟨b', cap', cur, hv, r1, r2, r3, r4, r5, r6⟩⟩ := ho
        · omega
        · simp only [Value.slice.injEq, Option.some.injEq, Addr.mk.injEq] at hv
          obtain ⟨⟨rfl, _, _⟩, _, rfl⟩ := hv
          exact ⟨rfl, .inr ⟨b, cap, cur, rfl, r1, r2, Nat.zero_le _, r4, r5, by simp⟩⟩
      clear ho hr2 hG h0 e0
      go_wp2
      go_ret
      exact ⟨_, [], rfl, HO.out.1, by simp, HO.out.2.1, HO.out.2.2⟩
    · have e1 : (x == 1) = false := beq_eq_false_iff_ne.2 h1
      by_cases h2 : x = 2
      · subst h2
        go_wp2_with fail
        have hd := d_numlit g (P + 1 + 1) [30, 31, 60, 61] w2 hr2 (by omega) (by decide) (by decide)
        refine hd.mono ?_
        rintro e w3 ⟨z, rfl, hz, hr3, hg3⟩
        have hz2 : 30 ≤ z ∧ z ≤ 61 := by simp at hz; omega
        replace hG := grownBy_trans hG hg3
        clear hd hg3 hr2 hz ho
        obtain ⟨n, rfl⟩ : ∃ n : Nat, z = n := ⟨z.toNat, by omega⟩
        go_wp2_with (at_make; refine mkfull 32 3 Tryz.underlying32 infoInt rfl (by decide) rfl _ _ rfl n rfl rfl rfl rfl (by omega) ?_; intro w4 ho4 hB4 hz4)
        have hs := hG.size
        have HO : Hid (OwnI w4 w0.heap.size (.slice (some ⟨w3.heap.size, 0, none⟩) n n) (List.replicate n 0) ∧ IsRdB w4 g (P + 3) ∧ w0.grownBy w4 (some g)) := by
          refine ⟨?_, hr3.kept hB4, ?_⟩
          · unfold OwnI
            rw [List.length_replicate, List.map_replicate]
            exact ownsRow_mono ho4 (by omega)
          · exact grownBy_trans hG ⟨hB4.os, hB4.tape, hB4.output, hB4.size, fun i hi _ => hB4.block i hi⟩
        clear ho4 hB4 hr3 hG
        go_wp2
        go_ret
        exact ⟨_, List.replicate n 0, rfl, HO.out.1, by rw [List.length_replicate]; omega, HO.out.2.1, HO.out.2.2⟩
      · have e2 : (x == 2) = false := beq_eq_false_iff_ne.2 h2
        have HO : Hid (OwnI w2 w0.heap.size (.slice (some ⟨b, 0, none⟩) xs.length cap) xs ∧ IsRdB w2 g (P + 3) ∧ w0.grownBy w2 (some g)) := ⟨ho, hr2.mono (by omega), hG⟩
        clear ho hr2 hG h0 h1 h2
        go_wp2
        go_ret
        exact ⟨_, xs, rfl, HO.out.1, by omega, HO.out.2.1, HO.out.2.2⟩

def DrawTII (w : World) (e : Ending) (w' : World) : Prop :=
  ∃ v xs, ∃ d way : Int, e = .returned (.tuple #[v, (.int .i64 (d)), (.int .i64 (way))]) ∧ OwnI w' w.heap.size v xs ∧ xs.length ≤ 61 ∧ (-1 ≤ d ∧ d ≤ 7) ∧ (-1 ≤ way ∧ way ≤ 9223372036854775807) ∧ Below w.heap.size w w'
end Go.Proofs.YtdfnclnjnmdboaaGreatDoor
