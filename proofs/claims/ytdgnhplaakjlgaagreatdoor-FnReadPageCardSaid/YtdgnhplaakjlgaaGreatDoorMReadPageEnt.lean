/- Lemmas and contracts for ReadPage (Ent Bad): plain words on memory, contracts of the functions that the law reaches. No condition but what each states. -/
import Derived.Test.YtdgnhplaakjlgaaGreatDoorMReadPageRd
import Derived.Test.YtdgnhplaakjlgaaGreatDoorRTab
import Derived.Test.YtdgnhplaakjlgaaGreatDoorApp2
import Derived.Test.YtdgnhplaakjlgaaGreatDoorSapp
namespace Go.Proofs.YtdgnhplaakjlgaaGreatDoor
set_option linter.unusedVariables false
open Go.RowKit

/-- a source stays where nothing up to its block turns -/
theorem IsRdB.below {w w' : World} {g P : Nat} (h : IsRdB w g P) (hb : Below (g + 1) w w') : IsRdB w' g P := by
  obtain ⟨p, h1, v, cs, h2, h3, h4, h5, h6⟩ := h
  refine ⟨p, h1, v, cs, by rw [hb.block g (by omega)]; exact h2, ?_, h4, h5, h6⟩
  obtain ⟨a, cap, rfl, h7⟩ := h3
  refine ⟨a, cap, rfl, ?_⟩
  rcases h7 with h7 | ⟨b, off, rfl, hlt, h7⟩
  · exact .inl h7
  · rcases h6 with rfl | h6
    · exact .inl rfl
    · have hbg : b < g := h6 _ _ _ rfl
      exact .inr ⟨b, off, rfl, by have := hb.size; omega, fun i hi => by rw [hb.cell (p := ⟨b, off + i, none⟩) (by show b < _; omega)]; exact h7 i hi⟩
/-- a row of numbers is drawn: the source's block alone is written, the row is new -/
def DrawRow (w : World) (g P : Nat) (Q : List Int → Prop) (e : Ending) (w' : World) : Prop :=
  ∃ v xs, e = .returned v ∧ OwnI w' w.heap.size v xs ∧ Q xs ∧ IsRdB w' g P ∧ w.grownBy w' (some g)

set_option maxRecDepth 20000 in
set_option maxHeartbeats 400000 in
theorem c_l6Entries (g P : Nat) (w : World) (h : IsRdB w g P) (hp : P ≤ 900000) :
    Calls Tryz.prog 41 #[.pointer (some ⟨g, 0, none⟩)] w (DrawRow w g (P + 70) fun xs => 1 ≤ xs.length ∧ xs.length ≤ 20) := by
  have hgw := h.lt
  have hs0 : (w.alloc (.cells #[] 3)).ownsRow w.heap.size 3 1 (.slice (some ⟨w.heap.size, 0, none⟩) 0 0) 0 [] := World.ownsRow_made w #[] 0 (Nat.le_refl _) (by decide) rfl
  go_enter Tryz.func41, Tryz.ntmps41
  go_wp2_with fail
  have hd := d_numlit g P [100, 1000, 10, 20000] (w.alloc (.cells #[] 3)) (h.alloc _) (by omega) (by decide) (by decide)
  rw [show (w.alloc (.cells #[] 3)).heap.size = w.heap.size + 1 from by simp] at hd
  refine hd.mono ?_
  clear hd
  rintro e w1 ⟨size, rfl, hy, hr1, hg1⟩
  have ho1 := ownsRow_kept_new hs0 hg1 (fun k hk => by cases hk; exact hgw)
  have hG1 := grownBy_trans (World.grownBy_alloc w _ (some g)) hg1
  have hsz1 : 10 ≤ size ∧ size ≤ 20000 := by simp at hy; omega
  clear hy hg1 hs0
  go_wp2_with fail
  refine (d_pick g (P + 1) _ w1 hr1 (by omega)).mono ?_
  rintro e w2 ⟨n, rfl, ⟨hn0, hn1⟩, hr2, hg2⟩
  have ho2 := ownsRow_kept_new ho1 hg2 (fun k hk => by cases hk; exact hgw)
  have hG2 := grownBy_trans hG1 hg2
  obtain ⟨N, rfl⟩ : ∃ N : Nat, n = N := ⟨n.toNat, by omega⟩
  clear hg2 ho1 hG1 hr1
  go_wp2
  go_loopw [3, 5] (fun v i wr => ∃ (k : Nat) (L : List Int), k ≤ N + 1 ∧ i = .int .i64 ((N : Int) + 1 - k) ∧ L.length = k ∧ OwnI wr w.heap.size v L ∧ IsRdB wr g (P + 2 + 3 * k) ∧ w.grownBy wr (some g)) (fun _ i _ => (intOf i).toNat)
  case atStart => exact ⟨0, [], by omega, by go_num, rfl, ho2, hr2.mono (by omega), hG2⟩
  case round =>
    obtain ⟨k, L, hk, rfl, hL, ho, hr, hG⟩ := hrel
    clear ho2 hr2 hG2
    by_cases hlt : k < N + 1
    · have hN : (N : Int) < 20 := by omega
      obtain ⟨W, hW⟩ : ∃ W : World, W = wr := ⟨_, rfl⟩
      subst hW
      have hz0 : (size = 0) = False := eq_false (by omega)
      have hz1 : (size == 0) = false := beq_eq_false_iff_ne.2 (by omega)
      have hgw2 : ∀ k, (some g : Option Nat) = some k → k < w.heap.size := fun k hk => by cases hk; exact hgw
      have hs0 := hG.size
      unfold OwnI at ho
      rw [hL] at ho
      replace ho : W.drew.ownsRow w.heap.size 3 1 u3 k (L.map (Value.int .i64)) := ho
      replace hr : IsRdB W.drew g (P + 2 + 3 * k) := hr
      replace hG : w.grownBy W.drew (some g) := ⟨hG.os, hG.tape, hG.output, hG.size, hG.block⟩
      replace hs0 : w.heap.size ≤ W.drew.heap.size := hs0
      have hPk : P + 2 + 3 * k ≤ 900070 := by omega
      go_wp2
      go_region_held3 (fun wx => True) (trivial) (first
        | (refine sguard _ _ _ rfl ?_; refine sapp1 28 3 Tryz.underlying28 infoInt rfl (by decide) rfl _ _ rfl w.heap.size _ _ _ rfl rfl ho rfl rfl (by omega) (by omega) ?_; intro v' wn ho3 hg3)
        | (go_at_call 23; refine (d_pick g _ _ _ hr (by omega)).mono ?_; rintro e w3 ⟨x3, rfl, ⟨hxa3, hxb3⟩, hr, hg⟩; have hG := grownBy_trans hG hg; have ho := ownsRow_kept_new ho hg hgw2; have hs0 := hG.size))
      have HO : Hid (∃ L', L'.length = k + 1 ∧ OwnI wn w.heap.size v' L' ∧ IsRdB wn g (P + 2 + 3 * (k + 1)) ∧ w.grownBy wn (some g)) :=
        ⟨_, by rw [List.length_append, hL]; rfl, OwnI_snoc' hL.symm ho3, (hr.below (below_grown hg3 (by omega) (fun j hj => by have := (ho.lt j hj).1; omega))).mono (by omega), grown_new hG hg3 (fun j hj => (ho.lt j hj).1)⟩
      clear ho ho3 hg3 hr hG hL
      go_wp2
      obtain ⟨L', q1, q2, q3, q4⟩ := HO.out
      go_roundw
      case rel => exact ⟨k + 1, L', by omega, by go_num, q1, q2, q3, q4⟩
      case measure => simp [intOf]; omega
    · have hkN : k = N + 1 := by omega
      have HO : Hid (OwnI wr w.heap.size u3 L ∧ IsRdB wr g (P + 70) ∧ w.grownBy wr (some g) ∧ 1 ≤ L.length ∧ L.length ≤ 20) := ⟨ho, hr.mono (by omega), hG, by omega, by omega⟩
      clear ho hr hG hL hkN
      go_wp2
      go_ret
      exact ⟨_, L, rfl, HO.out.1, HO.out.2.2.2, HO.out.2.1, HO.out.2.2.1⟩
end Go.Proofs.YtdgnhplaakjlgaaGreatDoor

namespace Go.Proofs.YtdgnhplaakjlgaaGreatDoor
set_option linter.unusedVariables false
open Go.RowKit

/-- a row of numbers is returned, of the call's own since the world w0; nothing older has turned but the source -/
def DrawTb (w0 : World) (g P : Nat) (e : Ending) (w' : World) : Prop :=
  ∃ v xs, e = .returned v ∧ OwnI w' w0.heap.size v xs ∧ xs.length ≤ 61 ∧ IsRdB w' g P ∧ w0.grownBy w' (some g)

set_option maxRecDepth 20000 in
set_option maxHeartbeats 800000 in
theorem c_l2BadTable (g P : Nat) (v : Value) (xs : List Int) (w0 w : World) (h : IsRdB w g P) (hp : P ≤ 900000) (ho : OwnI w w0.heap.size v xs) (hx : 1 ≤ xs.length) (hx2 : xs.length ≤ 60) (hG : w0.grownBy w (some g)) (hg : g < w0.heap.size) :
    Calls Tryz.prog 40 #[.pointer (some ⟨g, 0, none⟩), v] w (DrawTb w0 g (P + 3)) := by
  have hgw : ∀ k, (some g : Option Nat) = some k → k < w0.heap.size := fun k hk => by cases hk; exact hg
  obtain ⟨b, cap, rfl, hb⟩ : ∃ b cap, v = .slice (some ⟨b, 0, none⟩) xs.length cap ∧ w0.heap.size ≤ b := by
    have ho0 := ho
    unfold OwnI at ho0
    obtain ⟨_, ⟨_, h0⟩ | ⟨b, cap, cur, rfl, hb, _⟩⟩ := ho0
    · omega
    · exact ⟨b, cap, rfl, hb⟩
  go_enter Tryz.func40, Tryz.ntmps40
  go_wp2_with fail
  refine (d_pick g P _ w h (by omega)).mono ?_
  rintro e w1 ⟨kk, rfl, ⟨hk0, hk1⟩, hr1, hg1⟩
  replace ho := ownsRow_kept_new ho hg1 hgw
  replace hG := grownBy_trans hG hg1
  obtain ⟨k, rfl⟩ : ∃ k : Nat, kk = k := ⟨kk.toNat, by omega⟩
  have hk : k < xs.length := by omega
  clear hg1 h hk1
  go_wp2_with fail
  refine (d_pick g (P + 1) _ w1 hr1 (by omega)).mono ?_
  rintro e w2 ⟨x, rfl, ⟨hx0, hx1⟩, hr2, hg2⟩
  replace ho := ownsRow_kept_new ho hg2 hgw
  replace hG := grownBy_trans hG hg2
  clear hg2 hr1
  by_cases h0 : x = 0
  · subst h0
    go_wp2_with fail
    have hd := d_numlit g (P + 1 + 1) [1000000000, 1000000001, -1000000001, 9223372036854775807] w2 hr2 (by omega) (by decide) (by decide)
    refine hd.mono ?_
    rintro e w3 ⟨z, rfl, _, hr3, hg3⟩
    replace ho := ownsRow_kept_new ho hg3 hgw
    replace hG := grownBy_trans hG hg3
    clear hd hg3 hr2
    have e1 : ∃ u, w3.cell? ⟨b, k, none⟩ = some u := by
      rw [ho.cellAt k (by omega)]
      exact ⟨_, List.getElem?_eq_getElem (by simp; omega)⟩
    obtain ⟨u, e1⟩ := e1
    have e2 := ho.frozenAt k
    have ho2 := (ho.stored k (.int .i64 z)).1
    rw [← List.map_set] at ho2
    have HO : Hid (OwnI (w3.setCell ⟨b, k, none⟩ (.int .i64 z)) w0.heap.size (.slice (some ⟨b, 0, none⟩) xs.length cap) (xs.set k z) ∧ IsRdB (w3.setCell ⟨b, k, none⟩ (.int .i64 z)) g (P + 3) ∧ w0.grownBy (w3.setCell ⟨b, k, none⟩ (.int .i64 z)) (some g)) :=
      ⟨by unfold OwnI; rw [List.length_set]; exact ho2, hr3.below ((Below.refl _ _).setCell (p := ⟨b, k, none⟩) (by show g + 1 ≤ b; omega) _), grown_new hG (grownBy_setCell w3 b k _) (fun j hj => by cases hj; exact hb)⟩
    clear ho ho2 hG hr3
    go_wp2
    go_ret
    exact ⟨_, xs.set k z, rfl, HO.out.1, by rw [List.length_set]; omega, HO.out.2.1, HO.out.2.2⟩
  · have e0 : (x == 0) = false := beq_eq_false_iff_ne.2 h0
    by_cases h1 : x = 1
    · subst h1
      have HO : Hid (OwnI w2 w0.heap.size (.slice (some ⟨b, 0, none⟩) 0 cap) [] ∧ IsRdB w2 g (P + 3) ∧ w0.grownBy w2 (some g)) := by
        refine ⟨?_, hr2.mono (by omega), hG⟩
        unfold OwnI at ho ⊢
        obtain ⟨_, ⟨_, h0⟩ | ⟨b', cap', cur, hv, r1, r2, r3, r4, r5, r6⟩⟩ := ho
        · omega
        · simp only [Value.slice.injEq, Option.some.injEq, Addr.mk.injEq] at hv
          obtain ⟨⟨rfl, _, _⟩, _, rfl⟩ := hv
          exact ⟨rfl, .inr ⟨b, cap, cur, rfl, r1, r2, Nat.zero_le _, r4, r5, by simp⟩⟩
      clear ho hr2 hG h0 e0
      go_wp2
      go_ret
      exact ⟨_, [], rfl, HO.out.1, by simp, HO.out.2.1, HO.out.2.2⟩
    · have e1 : (x == 1) = false := beq_eq_false_iff_ne.2 h1
      by_cases h2 : x = 2
      · subst h2
        go_wp2_with fail
        have hd := d_numlit g (P + 1 + 1) [30, 31, 60, 61] w2 hr2 (by omega) (by decide) (by decide)
        refine hd.mono ?_
        rintro e w3 ⟨z, rfl, hz, hr3, hg3⟩
        have hz2 : 30 ≤ z ∧ z ≤ 61 := by simp at hz; omega
        replace hG := grownBy_trans hG hg3
        clear hd hg3 hr2 hz ho
        obtain ⟨n, rfl⟩ : ∃ n : Nat, z = n := ⟨z.toNat, by omega⟩
        go_wp2_with (at_make; refine mkfull 28 3 Tryz.underlying28 infoInt rfl (by decide) rfl _ _ rfl n rfl rfl rfl rfl (by omega) ?_; intro w4 ho4 hB4 hz4)
        have hs := hG.size
        have HO : Hid (OwnI w4 w0.heap.size (.slice (some ⟨w3.heap.size, 0, none⟩) n n) (List.replicate n 0) ∧ IsRdB w4 g (P + 3) ∧ w0.grownBy w4 (some g)) := by
          refine ⟨?_, hr3.kept hB4, ?_⟩
          · unfold OwnI
            rw [List.length_replicate, List.map_replicate]
            exact ownsRow_mono ho4 (by omega)
          · exact grownBy_trans hG ⟨hB4.os, hB4.tape, hB4.output, hB4.size, fun i hi _ => hB4.block i hi⟩
        clear ho4 hB4 hr3 hG
        go_wp2
        go_ret
        exact ⟨_, List.replicate n 0, rfl, HO.out.1, by rw [List.length_replicate]; omega, HO.out.2.1, HO.out.2.2⟩
      · have e2 : (x == 2) = false := beq_eq_false_iff_ne.2 h2
        have HO : Hid (OwnI w2 w0.heap.size (.slice (some ⟨b, 0, none⟩) xs.length cap) xs ∧ IsRdB w2 g (P + 3) ∧ w0.grownBy w2 (some g)) := ⟨ho, hr2.mono (by omega), hG⟩
        clear ho hr2 hG h0 h1 h2
        go_wp2
        go_ret
        exact ⟨_, xs, rfl, HO.out.1, by omega, HO.out.2.1, HO.out.2.2⟩

def DrawTII (w : World) (e : Ending) (w' : World) : Prop :=
  ∃ v xs, ∃ d way : Int, e = .returned (.tuple #[v, (.int .i64 (d)), (.int .i64 (way))]) ∧ OwnI w' w.heap.size v xs ∧ xs.length ≤ 61 ∧ (-1 ≤ d ∧ d ≤ 7) ∧ (-1 ≤ way ∧ way ≤ 9223372036854775807) ∧ Below w.heap.size w w'
set_option maxRecDepth 20000 in
set_option maxHeartbeats 400000 in
theorem c_DrawRoundTable (v : Value) (cs : List Int) (w : World) (hv : RdL w v (cs.map (Value.int .u8))) (hl : cs.length ≤ 1099511627776) (hb : ∀ n ∈ cs, (Lit.int .u8 n).wf = true) (hcap : CapOk v) :
    Calls Tryz.prog 12 #[v] w (DrawTII w) := by
  have hv0 := hv
  obtain ⟨a, cap, rfl, hv1⟩ := hv0
  clear hv1
  simp only [List.length_map] at hv hcap ⊢
  go_enter Tryz.func12, Tryz.ntmps12
  go_wp2_with fail
  refine (c_l9Open _ cs _ hv hl hb hcap).mono ?_
  rintro e w1 ⟨g, rfl, hr1, hgb, hB1⟩
  clear hb hcap hv
  go_wp2_with fail
  refine (c_l6Guard g 0 w1 hr1 (by omega)).mono ?_
  rintro e w2 ⟨d, way, rfl, ⟨hd1, hd2, hw1, hw2⟩, hr2, hg2⟩
  have hgl : g < w2.heap.size := by have := hr2.lt; omega
  go_wp2_with fail
  refine (c_l6Entries g _ w2 hr2 (by omega)).mono ?_
  rintro e w3 ⟨v3, xs3, rfl, ho3, ⟨hx1, hx2⟩, hr3, hg3⟩
  go_wp2_with fail
  refine (c_l2BadTable g _ v3 xs3 w2 w3 hr3 (by omega) ho3 hx1 (by omega) hg3 hgl).mono ?_
  rintro e w4 ⟨v4, xs4, rfl, ho4, hx4, hr4, hg4⟩
  have hB := hB1.grown (grownBy_trans hg2 hg4) hB1.size (fun k hk => by cases hk; exact hgb)
  have ho := ownsRow_mono ho4 (show w.heap.size ≤ w2.heap.size by have := hB1.size; have := hg2.size; omega)
  clear ho4 ho3 hr4 hr3 hr2 hr1 hB1 hg2 hg3 hg4
  go_wp2
  go_ret3
  exact ⟨v4, xs4, d, way, rfl, ho, hx4, ⟨hd1, hd2⟩, ⟨hw1, hw2⟩, hB⟩
end Go.Proofs.YtdgnhplaakjlgaaGreatDoor
