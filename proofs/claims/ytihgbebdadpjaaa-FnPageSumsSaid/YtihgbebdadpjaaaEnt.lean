/- Contracts: drawn entries of a table. -/
import Derived.Test.YtihgbebdadpjaaaDraw6
import Derived.Test.YtihgbebdadpjaaaRTab
import Derived.Test.YtihgbebdadpjaaaApp2
import Derived.Test.YtihgbebdadpjaaaSapp
namespace Go.Proofs.Ytihgbebdadpjaaa
set_option linter.unusedVariables false
open Go.RowKit

/-- a source stays where nothing up to its block turns -/
theorem IsRdB.below {w w' : World} {g P : Nat} (h : IsRdB w g P) (hb : Below (g + 1) w w') : IsRdB w' g P := by
  obtain ⟨p, h1, v, cs, h2, h3, h4, h5, h6⟩ := h
  refine ⟨p, h1, v, cs, by rw [hb.block g (by omega)]; exact h2, ?_, h4, h5, h6⟩
  obtain ⟨a, cap, rfl, h7⟩ := h3
  refine ⟨a, cap, rfl, ?_⟩
  rcases h7 with h7 | ⟨b, off, rfl, hlt, h7⟩
  · exact .inl h7
  · rcases h6 with rfl | h6
    · exact .inl rfl
    · have hbg : b < g := h6 _ _ _ rfl
      exact .inr ⟨b, off, rfl, by have := hb.size; omega, fun i hi => by rw [hb.cell (p := ⟨b, off + i, none⟩) (by show b < _; omega)]; exact h7 i hi⟩
/-- a row of numbers is drawn: the source's block alone is written, the row is new -/
def DrawRow (w : World) (g P : Nat) (Q : List Int → Prop) (e : Ending) (w' : World) : Prop :=
  ∃ v xs, e = .returned v ∧ OwnI w' w.heap.size v xs ∧ Q xs ∧ IsRdB w' g P ∧ w.grownBy w' (some g)

set_option maxHeartbeats 400000 in
theorem c_l6Entries (g P : Nat) (w : World) (h : IsRdB w g P) (hp : P ≤ 900000) :
    Calls Try.prog 44 #[.pointer (some ⟨g, 0, none⟩)] w (DrawRow w g (P + 70) fun xs => 1 ≤ xs.length ∧ xs.length ≤ 20) := by
  have hgw := h.lt
  have hs0 : (w.alloc (.cells #[] 3)).ownsRow w.heap.size 3 1 (.slice (some ⟨w.heap.size, 0, none⟩) 0 0) 0 [] := World.ownsRow_made w #[] 0 (Nat.le_refl _) (by decide) rfl
  go_enter Try.func44, Try.ntmps44
  go_wp2_with fail
  have hd := d_numlit g P [100, 1000, 10, 20000] (w.alloc (.cells #[] 3)) (h.alloc _) (by omega) (by decide) (by decide)
  rw [show (w.alloc (.cells #[] 3)).heap.size = w.heap.size + 1 from by simp] at hd
  refine hd.mono ?_
  clear hd
  rintro e w1 ⟨size, rfl, hy, hr1, hg1⟩
  have ho1 := ownsRow_kept_new hs0 hg1 (fun k hk => by cases hk; exact hgw)
  have hG1 := grownBy_trans (World.grownBy_alloc w _ (some g)) hg1
  have hsz1 : 10 ≤ size ∧ size ≤ 20000 := by simp at hy; omega
  clear hy hg1 hs0
  go_wp2_with fail
  refine (d_pick g (P + 1) _ w1 hr1 (by omega)).mono ?_
  rintro e w2 ⟨n, rfl, ⟨hn0, hn1⟩, hr2, hg2⟩
  have ho2 := ownsRow_kept_new ho1 hg2 (fun k hk => by cases hk; exact hgw)
  have hG2 := grownBy_trans hG1 hg2
  obtain ⟨N, rfl⟩ : ∃ N : Nat, n = N := ⟨n.toNat, by omega⟩
  clear hg2 ho1 hG1 hr1
  go_wp2
  go_loopw [3, 5] (fun v i wr => ∃ (k : Nat) (L : List Int), k ≤ N + 1 ∧ i = .int .i64 ((N : Int) + 1 - k) ∧ L.length = k ∧ OwnI wr w.heap.size v L ∧ IsRdB wr g (P + 2 + 3 * k) ∧ w.grownBy wr (some g)) (fun _ i _ => (intOf i).toNat)
  case atStart => exact ⟨0, [], by omega, by go_num, rfl, ho2, hr2.mono (by omega), hG2⟩
  case round =>
    obtain ⟨k, L, hk, rfl, hL, ho, hr, hG⟩ := hrel
    clear ho2 hr2 hG2
    by_cases hlt : k < N + 1
    · have hN : (N : Int) < 20 := by omega
      obtain ⟨W, hW⟩ : ∃ W : World, W = wr := ⟨_, rfl⟩
      subst hW
      have hz0 : (size = 0) = False := eq_false (by omega)
      have hz1 : (size == 0) = false := beq_eq_false_iff_ne.2 (by omega)
      have hgw2 : ∀ k, (some g : Option Nat) = some k → k < w.heap.size := fun k hk => by cases hk; exact hgw
      have hs0 := hG.size
      unfold OwnI at ho
      rw [hL] at ho
      replace ho : W.drew.ownsRow w.heap.size 3 1 u3 k (L.map (Value.int .i64)) := ho
      replace hr : IsRdB W.drew g (P + 2 + 3 * k) := hr
      replace hG : w.grownBy W.drew (some g) := ⟨hG.os, hG.tape, hG.output, hG.size, hG.block⟩
      replace hs0 : w.heap.size ≤ W.drew.heap.size := hs0
      have hPk : P + 2 + 3 * k ≤ 900070 := by omega
      go_wp2
      go_region_held3 (fun wx => True) (trivial) (first
        | (refine sguard _ _ _ rfl ?_; refine sapp1 30 3 Try.underlying30 infoInt rfl (by decide) rfl _ _ rfl w.heap.size _ _ _ rfl rfl ho rfl rfl (by omega) (by omega) ?_; intro v' wn ho3 hg3)
        | (go_at_call 63; refine (d_pick g _ _ _ hr (by omega)).mono ?_; rintro e w3 ⟨x3, rfl, ⟨hxa3, hxb3⟩, hr, hg⟩; have hG := grownBy_trans hG hg; have ho := ownsRow_kept_new ho hg hgw2; have hs0 := hG.size))
      have HO : Hid (∃ L', L'.length = k + 1 ∧ OwnI wn w.heap.size v' L' ∧ IsRdB wn g (P + 2 + 3 * (k + 1)) ∧ w.grownBy wn (some g)) :=
        ⟨_, by rw [List.length_append, hL]; rfl, OwnI_snoc' hL.symm ho3, (hr.below (below_grown hg3 (by omega) (fun j hj => by have := (ho.lt j hj).1; omega))).mono (by omega), grown_new hG hg3 (fun j hj => (ho.lt j hj).1)⟩
      clear ho ho3 hg3 hr hG hL
      go_wp2
      obtain ⟨L', q1, q2, q3, q4⟩ := HO.out
      go_roundw
      case rel => exact ⟨k + 1, L', by omega, by go_num, q1, q2, q3, q4⟩
      case measure => simp [intOf]; omega
    · have hkN : k = N + 1 := by omega
      have HO : Hid (OwnI wr w.heap.size u3 L ∧ IsRdB wr g (P + 70) ∧ w.grownBy wr (some g) ∧ 1 ≤ L.length ∧ L.length ≤ 20) := ⟨ho, hr.mono (by omega), hG, by omega, by omega⟩
      clear ho hr hG hL hkN
      go_wp2
      go_ret
      exact ⟨_, L, rfl, HO.out.1, HO.out.2.2.2, HO.out.2.1, HO.out.2.2.1⟩
end Go.Proofs.Ytihgbebdadpjaaa
