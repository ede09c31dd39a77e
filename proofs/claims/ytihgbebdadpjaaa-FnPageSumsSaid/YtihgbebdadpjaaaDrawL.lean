/- Contracts of drawn layouts and places. -/
import Derived.Test.YtihgbebdadpjaaaDraw6
namespace Go.Proofs.Ytihgbebdadpjaaa
set_option linter.unusedVariables false
open Go.RowKit

theorem gcell {w w' : World} {g : Nat} (h : w.grownBy w' (some g)) {b o : Nat} (hb : b < w.heap.size) (hne : b ≠ g) : w'.cell? ⟨b, o, none⟩ = w.cell? ⟨b, o, none⟩ :=
  World.cell?_of_block (w := w) (a := ⟨b, o, none⟩) (h.block b hb (fun e => hne (by cases e; rfl)))
theorem gfroz {w w' : World} {g : Nat} (h : w.grownBy w' (some g)) {b o : Nat} (hb : b < w.heap.size) (hne : b ≠ g) : w'.frozen? ⟨b, o, none⟩ = w.frozen? ⟨b, o, none⟩ :=
  World.frozen?_of_block (w := w) (a := ⟨b, o, none⟩) (h.block b hb (fun e => hne (by cases e; rfl)))
theorem grownBy_newset {a w : World} {row : Option Nat} (h : a.grownBy w row) {b o : Nat} (hb : a.heap.size ≤ b) (v : Value) : a.grownBy (w.setCell ⟨b, o, none⟩ v) row :=
  ⟨h.os, h.tape, h.output, by have := h.size; simpa [World.setCell] using this, fun k hk hn => by rw [Below.heap_setCell _ _ _ _ (show k ≠ b by omega)]; exact h.block k hk hn⟩
theorem grownBy_newalloc {a w : World} {row : Option Nat} (h : a.grownBy w row) (o : Obj) : a.grownBy (w.alloc o) row := grownBy_trans h (World.grownBy_alloc _ _ _)
/-- a block of three cells that is not the source's stays -/
theorem keepRow {w w' : World} {g b : Nat} {v0 v1 v2 : Value} {t : TypeId} (hg : w.grownBy w' (some g)) (hb : w.heap[b]? = some (.cells #[v0, v1, v2] t (0, 0))) (hne : b ≠ g) : w'.heap[b]? = some (.cells #[v0, v1, v2] t (0, 0)) := by
  have hlt : b < w.heap.size := by
    by_cases h : b < w.heap.size
    · exact h
    · rw [Array.getElem?_eq_none (by omega)] at hb; cases hb
  rw [hg.block b hlt (fun e => hne (by cases e; rfl))]; exact hb
theorem rowFacts {w : World} {b : Nat} {v0 v1 v2 : Value} {t : TypeId} (hb : w.heap[b]? = some (.cells #[v0, v1, v2] t (0, 0))) :
    w.cell? ⟨b, 0, none⟩ = some v0 ∧ w.cell? ⟨b, 1, none⟩ = some v1 ∧ w.cell? ⟨b, 2, none⟩ = some v2 ∧ w.frozen? ⟨b, 0, none⟩ = false ∧ w.frozen? ⟨b, 1, none⟩ = false ∧ w.frozen? ⟨b, 2, none⟩ = false := by
  refine ⟨?_, ?_, ?_, ?_, ?_, ?_⟩ <;> simp [World.cell?, World.frozen?, hb]
theorem IsRdB.newset {w : World} {g P b o : Nat} {v : Value} (h : IsRdB w g P) (hb : g < b) : IsRdB (w.setCell ⟨b, o, none⟩ v) g P := by
  obtain ⟨p, hp, v', cs, h1, h2, h3, h4, h5⟩ := h
  refine ⟨p, hp, v', cs, ?_, RdL_setCell h2 (h5.imp (fun e => by rw [e]; rfl) (fun q a n c e => Nat.lt_trans (q a n c e) hb)), h3, h4, h5⟩
  rw [Below.heap_setCell _ _ _ _ (show g ≠ b by omega)]; exact h1

def DrawLay (w : World) (g P : Nat) (e : Ending) (w' : World) : Prop :=
  ∃ a b c : Int, e = .returned (.agg #[.int .i64 a, .int .i64 b, .int .i64 c]) ∧ IsRdB w' g P ∧ w.grownBy w' (some g)

set_option maxRecDepth 100000 in
set_option maxHeartbeats 1000000 in
theorem c_l6Layout (g P : Nat) (w : World) (h : IsRdB w g P) (hp : P ≤ 900000) :
    Calls Try.prog 62 #[.pointer (some ⟨g, 0, none⟩)] w (DrawLay w g (P + 5)) := by
  have hgl := h.lt
  go_enter Try.func62, Try.ntmps62
  go_wp2_with fail
  refine (d_pick g P _ _ (h.alloc _) (by omega)).mono ?_
  rintro e w1 ⟨x1, rfl, ⟨a1, b1⟩, hr1, hg1⟩
  go_wp2_with fail
  refine (d_pick g (P + 1) _ _ hr1 (by omega)).mono ?_
  rintro e w2 ⟨x2, rfl, ⟨a2, b2⟩, hr2, hg2⟩
  go_wp2_with fail
  refine (d_pick g (P + 2) _ _ hr2 (by omega)).mono ?_
  rintro e w3 ⟨x3, rfl, ⟨a3, b3⟩, hr3, hg3⟩
  have hR1 := keepRow (b := w.heap.size) hg1 (heap_alloc_new w _) (by omega)
  have hR3 := keepRow hg3 (keepRow hg2 hR1 (by omega)) (by omega)
  have hs1 := hg1.size
  have hs2 := hg2.size
  have hs3 := hg3.size
  simp at hs1
  clear hR1
  have HR3 : Hid _ := hR3
  clear hR3
  go_wp2_with fail
  refine (d_pick g (P + 3) _ _ (hr3.alloc _) (by omega)).mono ?_
  rintro e w4 ⟨x4, rfl, ⟨a4, b4⟩, hr4, hg4⟩
  have hs4 := hg4.size
  simp at hs4
  have hL4 := keepRow (b := w3.heap.size) hg4 (heap_alloc_new w3 _) (by omega)
  have hR4 := keepRow (b := w.heap.size) hg4 ((Below.heap_alloc w3 _ _ (by omega)).trans HR3.out) (by omega)
  obtain ⟨l0, l1, l2, lf0, lf1, lf2⟩ := rowFacts hL4
  obtain ⟨r0, r1, r2, rf0, rf1, rf2⟩ := rowFacts hR4
  have hG : w.grownBy w4 (some g) := grownBy_trans (grownBy_trans (grownBy_trans (grownBy_trans (World.grownBy_alloc _ _ _) hg1) hg2) hg3) (grownBy_trans (World.grownBy_alloc _ _ _) hg4)
  have hc : x4 = 0 ∨ x4 = 1 ∨ x4 = 2 ∨ (x4 ≠ 0 ∧ x4 ≠ 1 ∧ x4 ≠ 2) := by omega
  have HA : Hid (IsRdB w4 g (P + 4) ∧ w.grownBy w4 (some g)) := ⟨hr4, hG⟩
  rcases hc with hx | hx | hx | ⟨q0, q1, q2⟩
  · subst hx
    clear hg1 hg2 hg3 hg4 hr1 hr2 hr3 hG
    go_wp2_with fail
    refine (d_numlit g (P + 4) [0, 20, 21, -1] w4 hr4 (by omega) (by decide) (by decide)).mono ?_
    rintro e w5 ⟨y, rfl, hy, hr5, hg5⟩
    have hs5 := hg5.size
    have hL5 := keepRow hg5 hL4 (by omega)
    have hR5 := keepRow hg5 hR4 (by omega)
    clear l0 l1 l2 lf0 lf1 lf2 r0 r1 r2 rf0 rf1 rf2 hL4 hR4
    obtain ⟨l0, l1, l2, lf0, lf1, lf2⟩ := rowFacts hL5
    obtain ⟨r0, r1, r2, rf0, rf1, rf2⟩ := rowFacts hR5
    have HB : Hid (IsRdB w5 g (P + 5) ∧ w.grownBy w5 (some g)) := ⟨hr5, grownBy_trans HA.out.2 hg5⟩
    clear hg5 hL5 hR5 hr5 hr4 hy
    go_wp2
    refine bodyPost_ret (v := .agg #[(.int .i64 (y)), (.int .i64 (1 + x2)), (.int .i64 (5 + x3))]) (by simp [results, Try.results62, go_sem, r0, r1, r2]) rfl ⟨_, _, _, rfl, ?_, ?_⟩
    · exact (((HB.out.1.newset (by omega)).newset (by omega)).newset (by omega)).newset (by omega)
    · exact grownBy_newset (grownBy_newset (grownBy_newset (grownBy_newset HB.out.2 (by omega) _) (by omega) _) (by omega) _) (by omega) _
  · subst hx
    clear hg1 hg2 hg3 hg4 hr1 hr2 hr3 hG
    go_wp2_with fail
    refine (d_numlit g (P + 4) [0, 6, 7] w4 hr4 (by omega) (by decide) (by decide)).mono ?_
    rintro e w5 ⟨y, rfl, hy, hr5, hg5⟩
    have hs5 := hg5.size
    have hL5 := keepRow hg5 hL4 (by omega)
    have hR5 := keepRow hg5 hR4 (by omega)
    clear l0 l1 l2 lf0 lf1 lf2 r0 r1 r2 rf0 rf1 rf2 hL4 hR4
    obtain ⟨l0, l1, l2, lf0, lf1, lf2⟩ := rowFacts hL5
    obtain ⟨r0, r1, r2, rf0, rf1, rf2⟩ := rowFacts hR5
    have HB : Hid (IsRdB w5 g (P + 5) ∧ w.grownBy w5 (some g)) := ⟨hr5, grownBy_trans HA.out.2 hg5⟩
    clear hg5 hL5 hR5 hr5 hr4 hy
    go_wp2
    refine bodyPost_ret (v := .agg #[(.int .i64 (1 + x1)), (.int .i64 (y)), (.int .i64 (5 + x3))]) (by simp [results, Try.results62, go_sem, r0, r1, r2]) rfl ⟨_, _, _, rfl, ?_, ?_⟩
    · exact (((HB.out.1.newset (by omega)).newset (by omega)).newset (by omega)).newset (by omega)
    · exact grownBy_newset (grownBy_newset (grownBy_newset (grownBy_newset HB.out.2 (by omega) _) (by omega) _) (by omega) _) (by omega) _
  · subst hx
    clear hg1 hg2 hg3 hg4 hr1 hr2 hr3 hG
    go_wp2_with fail
    refine (d_numlit g (P + 4) [0, 1, 12, 13] w4 hr4 (by omega) (by decide) (by decide)).mono ?_
    rintro e w5 ⟨y, rfl, hy, hr5, hg5⟩
    have hs5 := hg5.size
    have hL5 := keepRow hg5 hL4 (by omega)
    have hR5 := keepRow hg5 hR4 (by omega)
    clear l0 l1 l2 lf0 lf1 lf2 r0 r1 r2 rf0 rf1 rf2 hL4 hR4
    obtain ⟨l0, l1, l2, lf0, lf1, lf2⟩ := rowFacts hL5
    obtain ⟨r0, r1, r2, rf0, rf1, rf2⟩ := rowFacts hR5
    have HB : Hid (IsRdB w5 g (P + 5) ∧ w.grownBy w5 (some g)) := ⟨hr5, grownBy_trans HA.out.2 hg5⟩
    clear hg5 hL5 hR5 hr5 hr4 hy
    go_wp2
    refine bodyPost_ret (v := .agg #[(.int .i64 (1 + x1)), (.int .i64 (1 + x2)), (.int .i64 (y))]) (by simp [results, Try.results62, go_sem, r0, r1, r2]) rfl ⟨_, _, _, rfl, ?_, ?_⟩
    · exact (((HB.out.1.newset (by omega)).newset (by omega)).newset (by omega)).newset (by omega)
    · exact grownBy_newset (grownBy_newset (grownBy_newset (grownBy_newset HB.out.2 (by omega) _) (by omega) _) (by omega) _) (by omega) _
  · have q0 : (x4 == 0) = false := beq_eq_false_iff_ne.2 q0
    have q1 : (x4 == 1) = false := beq_eq_false_iff_ne.2 q1
    have q2 : (x4 == 2) = false := beq_eq_false_iff_ne.2 q2
    clear hg1 hg2 hg3 hg4 hr1 hr2 hr3 hG hL4 hR4 hr4
    go_wp2
    refine bodyPost_ret (v := .agg #[(.int .i64 (1 + x1)), (.int .i64 (1 + x2)), (.int .i64 (5 + x3))]) (by simp [results, Try.results62, go_sem, r0, r1, r2]) rfl ⟨_, _, _, rfl, ?_, ?_⟩
    · exact (((IsRdB.mono (P' := P + 5) HA.out.1 (by omega)).newset (by omega)).newset (by omega)).newset (by omega)
    · exact grownBy_newset (grownBy_newset (grownBy_newset HA.out.2 (by omega) _) (by omega) _) (by omega) _
end Go.Proofs.Ytihgbebdadpjaaa
