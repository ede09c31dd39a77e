/- Lemmas and contracts for ReadPage (DrawL DrawL2 DrawL3 DrawP): plain words on memory, contracts of the functions that the law reaches. No condition but what each states. -/
import Derived.Test.YtdgnhplaakjlgaaGreatDoorMReadPageRd
import Derived.Deep.RegionWith
import Derived.Test.YtdgnhplaakjlgaaGreatDoorMReadPageEnt
namespace Go.Proofs.YtdgnhplaakjlgaaGreatDoor
set_option linter.unusedVariables false
open Go.RowKit

theorem gcell {w w' : World} {g : Nat} (h : w.grownBy w' (some g)) {b o : Nat} (hb : b < w.heap.size) (hne : b ≠ g) : w'.cell? ⟨b, o, none⟩ = w.cell? ⟨b, o, none⟩ :=
  World.cell?_of_block (w := w) (a := ⟨b, o, none⟩) (h.block b hb (fun e => hne (by cases e; rfl)))
theorem gfroz {w w' : World} {g : Nat} (h : w.grownBy w' (some g)) {b o : Nat} (hb : b < w.heap.size) (hne : b ≠ g) : w'.frozen? ⟨b, o, none⟩ = w.frozen? ⟨b, o, none⟩ :=
  World.frozen?_of_block (w := w) (a := ⟨b, o, none⟩) (h.block b hb (fun e => hne (by cases e; rfl)))
theorem grownBy_newset {a w : World} {row : Option Nat} (h : a.grownBy w row) {b o : Nat} (hb : a.heap.size ≤ b) (v : Value) : a.grownBy (w.setCell ⟨b, o, none⟩ v) row :=
  ⟨h.os, h.tape, h.output, by have := h.size; simpa [World.setCell] using this, fun k hk hn => by rw [Below.heap_setCell _ _ _ _ (show k ≠ b by omega)]; exact h.block k hk hn⟩
theorem grownBy_newalloc {a w : World} {row : Option Nat} (h : a.grownBy w row) (o : Obj) : a.grownBy (w.alloc o) row := grownBy_trans h (World.grownBy_alloc _ _ _)
/-- a block of three cells that is not the source's stays -/
theorem keepRow {w w' : World} {g b : Nat} {v0 v1 v2 : Value} {t : TypeId} (hg : w.grownBy w' (some g)) (hb : w.heap[b]? = some (.cells #[v0, v1, v2] t (0, 0))) (hne : b ≠ g) : w'.heap[b]? = some (.cells #[v0, v1, v2] t (0, 0)) := by
  have hlt : b < w.heap.size := by
    by_cases h : b < w.heap.size
    · exact h
    · rw [Array.getElem?_eq_none (by omega)] at hb; cases hb
  rw [hg.block b hlt (fun e => hne (by cases e; rfl))]; exact hb
theorem rowFacts {w : World} {b : Nat} {v0 v1 v2 : Value} {t : TypeId} (hb : w.heap[b]? = some (.cells #[v0, v1, v2] t (0, 0))) :
    w.cell? ⟨b, 0, none⟩ = some v0 ∧ w.cell? ⟨b, 1, none⟩ = some v1 ∧ w.cell? ⟨b, 2, none⟩ = some v2 ∧ w.frozen? ⟨b, 0, none⟩ = false ∧ w.frozen? ⟨b, 1, none⟩ = false ∧ w.frozen? ⟨b, 2, none⟩ = false := by
  refine ⟨?_, ?_, ?_, ?_, ?_, ?_⟩ <;> simp [World.cell?, World.frozen?, hb]
theorem IsRdB.newset {w : World} {g P b o : Nat} {v : Value} (h : IsRdB w g P) (hb : g < b) : IsRdB (w.setCell ⟨b, o, none⟩ v) g P := by
  obtain ⟨p, hp, v', cs, h1, h2, h3, h4, h5⟩ := h
  refine ⟨p, hp, v', cs, ?_, RdL_setCell h2 (h5.imp (fun e => by rw [e]; rfl) (fun q a n c e => Nat.lt_trans (q a n c e) hb)), h3, h4, h5⟩
  rw [Below.heap_setCell _ _ _ _ (show g ≠ b by omega)]; exact h1

def DrawLay (w : World) (g P : Nat) (e : Ending) (w' : World) : Prop :=
  ∃ a b c : Int, e = .returned (.agg #[.int .i64 a, .int .i64 b, .int .i64 c]) ∧ IsRdB w' g P ∧ w.grownBy w' (some g)

set_option maxRecDepth 100000 in
set_option maxHeartbeats 1000000 in
theorem c_l6Layout (g P : Nat) (w : World) (h : IsRdB w g P) (hp : P ≤ 900000) :
    Calls Tryz.prog 53 #[.pointer (some ⟨g, 0, none⟩)] w (DrawLay w g (P + 5)) := by
  have hgl := h.lt
  go_enter Tryz.func53, Tryz.ntmps53
  go_wp2_with fail
  refine (d_pick g P _ _ (h.alloc _) (by omega)).mono ?_
  rintro e w1 ⟨x1, rfl, ⟨a1, b1⟩, hr1, hg1⟩
  go_wp2_with fail
  refine (d_pick g (P + 1) _ _ hr1 (by omega)).mono ?_
  rintro e w2 ⟨x2, rfl, ⟨a2, b2⟩, hr2, hg2⟩
  go_wp2_with fail
  refine (d_pick g (P + 2) _ _ hr2 (by omega)).mono ?_
  rintro e w3 ⟨x3, rfl, ⟨a3, b3⟩, hr3, hg3⟩
  have hR1 := keepRow (b := w.heap.size) hg1 (heap_alloc_new w _) (by omega)
  have hR3 := keepRow hg3 (keepRow hg2 hR1 (by omega)) (by omega)
  have hs1 := hg1.size
  have hs2 := hg2.size
  have hs3 := hg3.size
  simp at hs1
  clear hR1
  have HR3 : Hid _ := hR3
  clear hR3
  go_wp2_with fail
  refine (d_pick g (P + 3) _ _ (hr3.alloc _) (by omega)).mono ?_
  rintro e w4 ⟨x4, rfl, ⟨a4, b4⟩, hr4, hg4⟩
  have hs4 := hg4.size
  simp at hs4
  have hL4 := keepRow (b := w3.heap.size) hg4 (heap_alloc_new w3 _) (by omega)
  have hR4 := keepRow (b := w.heap.size) hg4 ((Below.heap_alloc w3 _ _ (by omega)).trans HR3.out) (by omega)
  obtain ⟨l0, l1, l2, lf0, lf1, lf2⟩ := rowFacts hL4
  obtain ⟨r0, r1, r2, rf0, rf1, rf2⟩ := rowFacts hR4
  have hG : w.grownBy w4 (some g) := grownBy_trans (grownBy_trans (grownBy_trans (grownBy_trans (World.grownBy_alloc _ _ _) hg1) hg2) hg3) (grownBy_trans (World.grownBy_alloc _ _ _) hg4)
  have hc : x4 = 0 ∨ x4 = 1 ∨ x4 = 2 ∨ (x4 ≠ 0 ∧ x4 ≠ 1 ∧ x4 ≠ 2) := by omega
  have HA : Hid (IsRdB w4 g (P + 4) ∧ w.grownBy w4 (some g)) := ⟨hr4, hG⟩
  rcases hc with hx | hx | hx | ⟨q0, q1, q2⟩
  · subst hx
    clear hg1 hg2 hg3 hg4 hr1 hr2 hr3 hG
    go_wp2_with fail
    refine (d_numlit g (P + 4) [0, 20, 21, -1] w4 hr4 (by omega) (by decide) (by decide)).mono ?_
    rintro e w5 ⟨y, rfl, hy, hr5, hg5⟩
    have hs5 := hg5.size
    have hL5 := keepRow hg5 hL4 (by omega)
    have hR5 := keepRow hg5 hR4 (by omega)
    clear l0 l1 l2 lf0 lf1 lf2 r0 r1 r2 rf0 rf1 rf2 hL4 hR4
    obtain ⟨l0, l1, l2, lf0, lf1, lf2⟩ := rowFacts hL5
    obtain ⟨r0, r1, r2, rf0, rf1, rf2⟩ := rowFacts hR5
    have HB : Hid (IsRdB w5 g (P + 5) ∧ w.grownBy w5 (some g)) := ⟨hr5, grownBy_trans HA.out.2 hg5⟩
    clear hg5 hL5 hR5 hr5 hr4 hy
    go_wp2
    refine bodyPost_ret (v := .agg #[(.int .i64 (y)), (.int .i64 (1 + x2)), (.int .i64 (5 + x3))]) (by simp [results, Tryz.results53, go_sem, r0, r1, r2]) rfl ⟨_, _, _, rfl, ?_, ?_⟩
    · exact (((HB.out.1.newset (by omega)).newset (by omega)).newset (by omega)).newset (by omega)
    · exact grownBy_newset (grownBy_newset (grownBy_newset (grownBy_newset HB.out.2 (by omega) _) (by omega) _) (by omega) _) (by omega) _
  · subst hx
    clear hg1 hg2 hg3 hg4 hr1 hr2 hr3 hG
    go_wp2_with fail
    refine (d_numlit g (P + 4) [0, 6, 7] w4 hr4 (by omega) (by decide) (by decide)).mono ?_
    rintro e w5 ⟨y, rfl, hy, hr5, hg5⟩
    have hs5 := hg5.size
    have hL5 := keepRow hg5 hL4 (by omega)
    have hR5 := keepRow hg5 hR4 (by omega)
    clear l0 l1 l2 lf0 lf1 lf2 r0 r1 r2 rf0 rf1 rf2 hL4 hR4
    obtain ⟨l0, l1, l2, lf0, lf1, lf2⟩ := rowFacts hL5
    obtain ⟨r0, r1, r2, rf0, rf1, rf2⟩ := rowFacts hR5
    have HB : Hid (IsRdB w5 g (P + 5) ∧ w.grownBy w5 (some g)) := ⟨hr5, grownBy_trans HA.out.2 hg5⟩
    clear hg5 hL5 hR5 hr5 hr4 hy
    go_wp2
    refine bodyPost_ret (v := .agg #[(.int .i64 (1 + x1)), (.int .i64 (y)), (.int .i64 (5 + x3))]) (by simp [results, Tryz.results53, go_sem, r0, r1, r2]) rfl ⟨_, _, _, rfl, ?_, ?_⟩
    · exact (((HB.out.1.newset (by omega)).newset (by omega)).newset (by omega)).newset (by omega)
    · exact grownBy_newset (grownBy_newset (grownBy_newset (grownBy_newset HB.out.2 (by omega) _) (by omega) _) (by omega) _) (by omega) _
  · subst hx
    clear hg1 hg2 hg3 hg4 hr1 hr2 hr3 hG
    go_wp2_with fail
    refine (d_numlit g (P + 4) [0, 1, 12, 13] w4 hr4 (by omega) (by decide) (by decide)).mono ?_
    rintro e w5 ⟨y, rfl, hy, hr5, hg5⟩
    have hs5 := hg5.size
    have hL5 := keepRow hg5 hL4 (by omega)
    have hR5 := keepRow hg5 hR4 (by omega)
    clear l0 l1 l2 lf0 lf1 lf2 r0 r1 r2 rf0 rf1 rf2 hL4 hR4
    obtain ⟨l0, l1, l2, lf0, lf1, lf2⟩ := rowFacts hL5
    obtain ⟨r0, r1, r2, rf0, rf1, rf2⟩ := rowFacts hR5
    have HB : Hid (IsRdB w5 g (P + 5) ∧ w.grownBy w5 (some g)) := ⟨hr5, grownBy_trans HA.out.2 hg5⟩
    clear hg5 hL5 hR5 hr5 hr4 hy
    go_wp2
    refine bodyPost_ret (v := .agg #[(.int .i64 (1 + x1)), (.int .i64 (1 + x2)), (.int .i64 (y))]) (by simp [results, Tryz.results53, go_sem, r0, r1, r2]) rfl ⟨_, _, _, rfl, ?_, ?_⟩
    · exact (((HB.out.1.newset (by omega)).newset (by omega)).newset (by omega)).newset (by omega)
    · exact grownBy_newset (grownBy_newset (grownBy_newset (grownBy_newset HB.out.2 (by omega) _) (by omega) _) (by omega) _) (by omega) _
  · have q0 : (x4 == 0) = false := beq_eq_false_iff_ne.2 q0
    have q1 : (x4 == 1) = false := beq_eq_false_iff_ne.2 q1
    have q2 : (x4 == 2) = false := beq_eq_false_iff_ne.2 q2
    clear hg1 hg2 hg3 hg4 hr1 hr2 hr3 hG hL4 hR4 hr4
    go_wp2
    refine bodyPost_ret (v := .agg #[(.int .i64 (1 + x1)), (.int .i64 (1 + x2)), (.int .i64 (5 + x3))]) (by simp [results, Tryz.results53, go_sem, r0, r1, r2]) rfl ⟨_, _, _, rfl, ?_, ?_⟩
    · exact (((IsRdB.mono (P' := P + 5) HA.out.1 (by omega)).newset (by omega)).newset (by omega)).newset (by omega)
    · exact grownBy_newset (grownBy_newset (grownBy_newset HA.out.2 (by omega) _) (by omega) _) (by omega) _
end Go.Proofs.YtdgnhplaakjlgaaGreatDoor

namespace Go.Proofs.YtdgnhplaakjlgaaGreatDoor
set_option linter.unusedVariables false
open Go.RowKit

def DrawLI (w : World) (e : Ending) (w' : World) : Prop :=
  ∃ a b c n : Int, e = .returned (.tuple #[.agg #[.int .i64 a, .int .i64 b, .int .i64 c], .int .i64 n]) ∧ Below w.heap.size w w'

end Go.Proofs.YtdgnhplaakjlgaaGreatDoor

namespace Go.Proofs.YtdgnhplaakjlgaaGreatDoor
set_option linter.unusedVariables false
open Go.RowKit

def DrawLIII (w : World) (e : Ending) (w' : World) : Prop :=
  ∃ a b c n m k : Int, e = .returned (.tuple #[.agg #[.int .i64 a, .int .i64 b, .int .i64 c], .int .i64 n, .int .i64 m, .int .i64 k]) ∧ (-9223372036854775807 ≤ m ∧ m ≤ 9223372036854775807) ∧ Below w.heap.size w w'

/-- what is carried along: the source, the rows of l and of the result -/
def Keep (w : World) (g P R L : Nat) (a b c : Value) (w0 w3 : World) : Prop :=
  IsRdB w3 g P ∧ Below R w w3 ∧ w3.heap[L]? = some (.cells #[a, b, c] 24 (0, 0)) ∧ w3.heap[R]? = some (.cells #[.int .i64 0, .int .i64 0, .int .i64 0] 24 (0, 0))
theorem Keep.step {w w0 w3 w4 : World} {g P P' R L : Nat} {a b c : Value} (h : Keep w g P R L a b c w0 w3) (hr : IsRdB w4 g P') (hg : w3.grownBy w4 (some g)) (h1 : R < g) (h2 : L ≠ g) (hR : R ≤ w3.heap.size) : Keep w g P' R L a b c w0 w4 :=
  ⟨hr, h.2.1.grown hg hR (fun k hk => by cases hk; omega), keepRow hg h.2.2.1 h2, keepRow hg h.2.2.2 (by omega)⟩

end Go.Proofs.YtdgnhplaakjlgaaGreatDoor

namespace Go.Proofs.YtdgnhplaakjlgaaGreatDoor
set_option linter.unusedVariables false
open Go.RowKit

/-- a layout, a row of the call's own and a number are drawn -/
def DrawLTI (w : World) (e : Ending) (w' : World) : Prop :=
  ∃ a b c : Int, ∃ v xs, ∃ n : Int, e = .returned (.tuple #[.agg #[.int .i64 a, .int .i64 b, .int .i64 c], v, .int .i64 n]) ∧ OwnI w' w.heap.size v xs ∧ xs.length ≤ 61 ∧ Below w.heap.size w w'
theorem Keep.below {w w0 w3 w4 : World} {g P R L : Nat} {a b c : Value} (h : Keep w g P R L a b c w0 w3) (hB : Below w3.heap.size w3 w4) (hR : R ≤ w3.heap.size) (hL : L < w3.heap.size) (hR' : R < w3.heap.size) : Keep w g P R L a b c w0 w4 :=
  ⟨h.1.kept hB, h.2.1.trans (hB.mono hR), by rw [hB.block L hL]; exact h.2.2.1, by rw [hB.block R hR']; exact h.2.2.2⟩

theorem ownsRow_kept_far {w : World} {base e : Nat} {v : Value} {n : Nat} {xs : List Value} {b : Nat} (h : w.ownsRow base e 1 v n xs) (hb : ∀ k, v.ownBlock = some k → b < k) (o : Nat) (u : Value) : (w.setCell ⟨b, o, none⟩ u).ownsRow base e 1 v n xs := by
  refine h.kept (grownBy_setCell w b o u) ?_
  cases hv : v.ownBlock with
  | none => exact .inl rfl
  | some k => exact .inr (fun e => by cases e; have := hb _ hv; omega)
set_option maxRecDepth 100000 in
set_option maxHeartbeats 3200000 in
theorem c_DrawPageLines (v : Value) (cs : List Int) (w : World) (hv : RdL w v (cs.map (Value.int .u8))) (hl : cs.length ≤ 1099511627776) (hb : ∀ n ∈ cs, (Lit.int .u8 n).wf = true) (hcap : CapOk v) :
    Calls Tryz.prog 21 #[v] w (DrawLTI w) := by
  have hv0 := hv
  obtain ⟨a, cap, rfl, hv1⟩ := hv0
  clear hv1
  simp only [List.length_map] at hv hcap ⊢
  go_enter Tryz.func21, Tryz.ntmps21
  go_wp2_with fail
  refine (c_l9Open _ cs _ (hv.kept ((Below.refl _ _).alloc (Nat.le_refl _) _)) hl hb hcap).mono ?_
  rintro e w1 ⟨g, rfl, hr1, hgb, hB1⟩
  clear hb hcap hv
  simp at hgb
  have hR1 : w1.heap[w.heap.size]? = _ := (hB1.block w.heap.size (by simp)).trans (heap_alloc_new w _)
  go_wp2_with fail
  refine (c_l6Layout g 0 w1 hr1 (by omega)).mono ?_
  rintro e w2 ⟨a, b, c, rfl, hr2, hg2⟩
  have hR2 := keepRow hg2 hR1 (by omega)
  have hs1 := hB1.size
  have hs2 := hg2.size
  have hgl := hr1.lt
  simp at hs1
  clear hR1
  have HR2 : Hid _ := hR2
  clear hR2
  go_wp2_with fail
  refine (c_l6Entries g 5 _ (hr2.alloc _) (by omega)).mono ?_
  rintro e w3 ⟨v3, xs3, rfl, ho3, ⟨hx1, hx2⟩, hr3, hg3⟩
  have hG3 := hg3
  have hs3 := hg3.size
  simp at hs3
  have hK : Keep w g 75 w.heap.size w2.heap.size (.int .i64 (a)) (.int .i64 (b)) (.int .i64 (c)) w w3 := by
    refine ⟨hr3, ?_, keepRow (b := w2.heap.size) hg3 (heap_alloc_new w2 _) (by omega), keepRow (b := w.heap.size) hg3 ((Below.heap_alloc w2 _ _ (by omega)).trans HR2.out) (by omega)⟩
    exact (((Below.refl _ _).alloc (Nat.le_refl _) _).trans (hB1.mono (by simp))).grown (grownBy_trans hg2 (grownBy_trans (World.grownBy_alloc _ _ _) hg3)) (by omega) (fun k hk => by cases hk; omega)
  obtain ⟨W0, hW0⟩ : ∃ W0 : World, w2.alloc (.cells #[(.int .i64 (a)), (.int .i64 (b)), (.int .i64 (c))] 24) = W0 := ⟨_, rfl⟩
  have hW0s : W0.heap.size = w2.heap.size + 1 := by rw [← hW0]; simp
  have ho3' : OwnI w3 W0.heap.size v3 xs3 := by rw [← hW0]; exact ho3
  have hG3' : W0.grownBy w3 (some g) := by rw [← hW0]; exact hG3
  have HW : Hid (W0.heap.size = w2.heap.size + 1) := hW0s
  have HL0 : Hid (W0.heap[w2.heap.size]? = some (.cells #[(.int .i64 (a)), (.int .i64 (b)), (.int .i64 (c))] 24 (0, 0))) := by show _ = _; rw [← hW0]; exact heap_alloc_new w2 _
  have HR0 : Hid (W0.heap[w.heap.size]? = some (.cells #[(.int .i64 (0)), (.int .i64 (0)), (.int .i64 (0))] 24 (0, 0))) := by show _ = _; rw [← hW0]; exact (Below.heap_alloc w2 _ _ (by omega)).trans HR2.out
  have hBW0 : Below w.heap.size w W0 := by
    rw [← hW0]
    exact ((((Below.refl _ _).alloc (Nat.le_refl _) _).trans (hB1.mono (by simp))).grown hg2 (by omega) (fun k hk => by cases hk; omega)).alloc (by omega) _
  clear hr3 hg3 hg2 hr1 hB1 hr2 hW0 ho3 hG3 hW0s
  obtain ⟨b3, cap3, rfl⟩ : ∃ b3 cap3, v3 = .slice b3 xs3.length cap3 := let ⟨a, c, e, _⟩ := owns_RdI ho3'; ⟨a, c, by rw [e, List.length_map]⟩
  obtain ⟨l0, l1, l2, lf0, lf1, lf2⟩ := rowFacts hK.2.2.1
  have hlt3 : w2.heap.size < w3.heap.size := by omega
  go_wp2_with fail
  refine (c_spec_PagesNeeded a b c _ w3).mono ?_
  rintro e w4 ⟨rfl, hB4⟩
  have hK := hK.below hB4 (by omega) (by omega) (by omega)
  replace ho3' := ownsRow_kept_below ho3' hB4
  have hG4 : W0.grownBy w4 (some g) := grownBy_trans hG3' ⟨hB4.os, hB4.tape, hB4.output, hB4.size, fun i hi _ => hB4.block i hi⟩
  have hs4 := hB4.size
  have hgw : ∀ k, (some g : Option Nat) = some k → k < W0.heap.size := fun k hk => by have := HW.out; cases hk; omega
  clear hG3' hB4 l0 l1 l2 lf0 lf1 lf2
  go_wp2_with fail
  all_goals
    refine (d_pick g 75 _ _ hK.1 (by omega)).mono ?_
    rintro e w5 ⟨page, rfl, hq1, hr5, hg5⟩
    have hK := hK.step hr5 hg5 (by omega) (by omega) (by omega)
    replace ho3' := ownsRow_kept_new ho3' hg5 hgw
    have hG5 := grownBy_trans hG4 hg5
    have hs5 := hg5.size
    clear hr5 hg5 hG4 hq1
    go_wp2_with fail
    refine (d_pick g 76 _ _ hK.1 (by omega)).mono ?_
    rintro e w6 ⟨x, rfl, ⟨hx3, hx4⟩, hr6, hg6⟩
    have hK := hK.step hr6 hg6 (by omega) (by omega) (by omega)
    replace ho3' := ownsRow_kept_new ho3' hg6 hgw
    have hG6 := grownBy_trans hG5 hg6
    have hs6 := hg6.size
    clear hr6 hg6 hG5
    by_cases hx : x = 0
    · subst hx
      go_wp2_with fail
      refine (d_numlit g 77 [-1, 20, 9223372036854775807] w6 hK.1 (by omega) (by decide) (by decide)).mono ?_
      rintro e w7 ⟨page2, rfl, hpg, hr7, hg7⟩
      have hK := hK.step hr7 hg7 (by omega) (by omega) (by omega)
      replace ho3' := ownsRow_kept_new ho3' hg7 hgw
      have hG7 := grownBy_trans hG6 hg7
      have hs7 := hg7.size
      clear hr7 hg7 hG6 hpg
      have hL3 := hK.2.2.1
      have hR3 := hK.2.2.2
      obtain ⟨l0, l1, l2, lf0, lf1, lf2⟩ := rowFacts hL3
      obtain ⟨r0, r1, r2, rf0, rf1, rf2⟩ := rowFacts hR3
      have HA : Hid (IsRdB w7.drew g 78 ∧ OwnI w7.drew W0.heap.size (.slice b3 xs3.length cap3) xs3 ∧ W0.grownBy w7.drew (some g) ∧ g < W0.heap.size) := ⟨hK.1.mono (by omega), ho3', ⟨hG7.os, hG7.tape, hG7.output, hG7.size, hG7.block⟩, by have := HW.out; omega⟩
      have hlw1 : w2.heap.size < w7.heap.size := by omega
      have hlw2 : w.heap.size < w7.heap.size := by omega
      clear hK ho3' hG7 hL3 hR3
      go_wp2
      go_region_with ((go_at_call 40; refine (c_l2BadTable g 78 _ xs3 W0 _ HA.out.1 (by omega) HA.out.2.1 hx1 (by omega) HA.out.2.2.1 HA.out.2.2.2).mono ?_; rintro e w8 ⟨v8, xs8, rfl, ho8, hx8, hr8, hg8⟩; have hL8 := keepRow (w := W0) hg8 HL0.out (by omega); have hR8 := keepRow (w := W0) hg8 HR0.out (by omega); obtain ⟨k0, k1, k2, kf0, kf1, kf2⟩ := rowFacts hL8; obtain ⟨s0, s1, s2, sf0, sf1, sf2⟩ := rowFacts hR8))
      all_goals
        have HB : Hid (OwnI w8 w.heap.size v8 xs8 ∧ Below w.heap.size w w8 ∧ (∀ k, v8.ownBlock = some k → w.heap.size < k)) := ⟨ownsRow_mono ho8 (by have := HW.out; omega), hBW0.grown hg8 (by have := HW.out; omega) (fun k hk => by cases hk; omega), fun k hk => by have := (ho8.lt k hk).1; have := HW.out; omega⟩
        clear hL8 hR8 hg8 hr8 ho8 l0 l1 l2 lf0 lf1 lf2 r0 r1 r2 rf0 rf1 rf2
        go_wp2
        refine bodyPost_ret (v := .tuple #[.agg #[(.int .i64 (a)), (.int .i64 (b)), (.int .i64 (c))], v8, (.int .i64 (page2))]) (by simp [results, Tryz.results21, go_sem, s0, s1, s2]) rfl ⟨a, b, c, v8, xs8, page2, rfl, ?_, hx8, ?_⟩
        · exact ownsRow_kept_far (ownsRow_kept_far (ownsRow_kept_far HB.out.1 HB.out.2.2 0 _) HB.out.2.2 1 _) HB.out.2.2 2 _
        · exact ((HB.out.2.1.setCell (p := ⟨w.heap.size, 0, none⟩) (Nat.le_refl _) _).setCell (p := ⟨w.heap.size, 1, none⟩) (Nat.le_refl _) _).setCell (p := ⟨w.heap.size, 2, none⟩) (Nat.le_refl _) _
    · have hx' : (x == 0) = false := beq_eq_false_iff_ne.2 hx
      have hL3 := hK.2.2.1
      have hR3 := hK.2.2.2
      obtain ⟨l0, l1, l2, lf0, lf1, lf2⟩ := rowFacts hL3
      obtain ⟨r0, r1, r2, rf0, rf1, rf2⟩ := rowFacts hR3
      have HA : Hid (IsRdB w6.drew g 77 ∧ OwnI w6.drew W0.heap.size (.slice b3 xs3.length cap3) xs3 ∧ W0.grownBy w6.drew (some g) ∧ g < W0.heap.size) := ⟨hK.1.mono (by omega), ho3', ⟨hG6.os, hG6.tape, hG6.output, hG6.size, hG6.block⟩, by have := HW.out; omega⟩
      have hlw1 : w2.heap.size < w6.heap.size := by omega
      have hlw2 : w.heap.size < w6.heap.size := by omega
      clear hK ho3' hG6 hL3 hR3
      go_wp2
      go_region_with ((go_at_call 40; refine (c_l2BadTable g 77 _ xs3 W0 _ HA.out.1 (by omega) HA.out.2.1 hx1 (by omega) HA.out.2.2.1 HA.out.2.2.2).mono ?_; rintro e w8 ⟨v8, xs8, rfl, ho8, hx8, hr8, hg8⟩; have hL8 := keepRow (w := W0) hg8 HL0.out (by omega); have hR8 := keepRow (w := W0) hg8 HR0.out (by omega); obtain ⟨k0, k1, k2, kf0, kf1, kf2⟩ := rowFacts hL8; obtain ⟨s0, s1, s2, sf0, sf1, sf2⟩ := rowFacts hR8))
      all_goals
        have HB : Hid (OwnI w8 w.heap.size v8 xs8 ∧ Below w.heap.size w w8 ∧ (∀ k, v8.ownBlock = some k → w.heap.size < k)) := ⟨ownsRow_mono ho8 (by have := HW.out; omega), hBW0.grown hg8 (by have := HW.out; omega) (fun k hk => by cases hk; omega), fun k hk => by have := (ho8.lt k hk).1; have := HW.out; omega⟩
        clear hL8 hR8 hg8 hr8 ho8 l0 l1 l2 lf0 lf1 lf2 r0 r1 r2 rf0 rf1 rf2
        go_wp2
        refine bodyPost_ret (v := .tuple #[.agg #[(.int .i64 (a)), (.int .i64 (b)), (.int .i64 (c))], v8, (.int .i64 (page))]) (by simp [results, Tryz.results21, go_sem, s0, s1, s2]) rfl ⟨a, b, c, v8, xs8, page, rfl, ?_, hx8, ?_⟩
        · exact ownsRow_kept_far (ownsRow_kept_far (ownsRow_kept_far HB.out.1 HB.out.2.2 0 _) HB.out.2.2 1 _) HB.out.2.2 2 _
        · exact ((HB.out.2.1.setCell (p := ⟨w.heap.size, 0, none⟩) (Nat.le_refl _) _).setCell (p := ⟨w.heap.size, 1, none⟩) (Nat.le_refl _) _).setCell (p := ⟨w.heap.size, 2, none⟩) (Nat.le_refl _) _
end Go.Proofs.YtdgnhplaakjlgaaGreatDoor
