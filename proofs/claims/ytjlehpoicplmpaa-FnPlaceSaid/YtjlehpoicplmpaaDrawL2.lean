/- Contracts of drawn layouts and places, as the laws call for them. -/
import Derived.Test.YtjlehpoicplmpaaDrawL
import Derived.Deep.RegionWith
namespace Go.Proofs.Ytjlehpoicplmpaa
set_option linter.unusedVariables false
open Go.RowKit

def DrawLI (w : World) (e : Ending) (w' : World) : Prop :=
  ∃ a b c n : Int, e = .returned (.tuple #[.agg #[.int .i64 a, .int .i64 b, .int .i64 c], .int .i64 n]) ∧ Below w.heap.size w w'

set_option maxRecDepth 100000 in
set_option maxHeartbeats 1000000 in
theorem c_DrawPagesNeeded (v : Value) (cs : List Int) (w : World) (hv : RdL w v (cs.map (Value.int .u8))) (hl : cs.length ≤ 1099511627776) (hb : ∀ n ∈ cs, (Lit.int .u8 n).wf = true) (hcap : CapOk v) :
    Calls Try.prog 75 #[v] w (DrawLI w) := by
  have hv0 := hv
  obtain ⟨a, cap, rfl, hv1⟩ := hv0
  clear hv1
  simp only [List.length_map] at hv hcap ⊢
  go_enter Try.func75, Try.ntmps75
  go_wp2_with fail
  refine (c_l9Open _ cs _ (hv.kept ((Below.refl _ _).alloc (Nat.le_refl _) _)) hl hb hcap).mono ?_
  rintro e w1 ⟨g, rfl, hr1, hgb, hB1⟩
  clear hb hcap hv
  simp at hgb
  have hR1 : w1.heap[w.heap.size]? = _ := (hB1.block w.heap.size (by simp)).trans (heap_alloc_new w _)
  go_wp2_with fail
  refine (c_l6Layout g 0 w1 hr1 (by omega)).mono ?_
  rintro e w2 ⟨a, b, c, rfl, hr2, hg2⟩
  have hR2 := keepRow hg2 hR1 (by omega)
  have hs1 := hB1.size
  have hs2 := hg2.size
  have hgl := hr1.lt
  simp at hs1
  clear hR1
  have HR2 : Hid _ := hR2
  clear hR2
  go_wp2_with fail
  refine (d_pick g 5 _ _ (hr2.alloc _) (by omega)).mono ?_
  rintro e w3 ⟨x, rfl, ⟨a4, b4⟩, hr3, hg3⟩
  have hs3 := hg3.size
  simp at hs3
  have hL3 := keepRow (b := w2.heap.size) hg3 (heap_alloc_new w2 _) (by omega)
  have hR3 := keepRow (b := w.heap.size) hg3 ((Below.heap_alloc w2 _ _ (by omega)).trans HR2.out) (by omega)
  obtain ⟨l0, l1, l2, lf0, lf1, lf2⟩ := rowFacts hL3
  obtain ⟨r0, r1, r2, rf0, rf1, rf2⟩ := rowFacts hR3
  have hG : Below w.heap.size w w3 := (((Below.refl _ _).alloc (Nat.le_refl _) _).trans (hB1.mono (by simp))).grown (grownBy_trans hg2 (grownBy_trans (World.grownBy_alloc _ _ _) hg3)) (by omega) (fun k hk => by cases hk; omega)
  have HA : Hid (IsRdB w3 g 6 ∧ Below w.heap.size w w3) := ⟨hr3, hG⟩
  by_cases hx : x = 0
  · subst hx
    clear hg2 hg3 hr1 hr2 hG hB1
    have hlt1 : w2.heap.size < w3.heap.size := by omega
    have hlt2 : w.heap.size < w3.heap.size := by omega
    go_wp2_with fail
    go_region_with ((go_at_call 70; refine (d_numlit g 6 [-1, 60, 61, 9223372036854775807] w3.drew (show IsRdB w3.drew g 6 from HA.out.1) (by omega) (by decide) (by decide)).mono ?_; rintro e w5 ⟨y, rfl, hy, hr5, hg5⟩; have hL5 := keepRow (w := w3.drew) hg5 hL3 (by omega); have hR5 := keepRow (w := w3.drew) hg5 hR3 (by omega); obtain ⟨k0, k1, k2, kf0, kf1, kf2⟩ := rowFacts hL5; obtain ⟨s0, s1, s2, sf0, sf1, sf2⟩ := rowFacts hR5))
    all_goals
      have HB : Hid (Below w.heap.size w w5) := (HA.out.2.drew).grown hg5 HA.out.2.size (fun k hk => by cases hk; omega)
      clear hL5 hR5 hg5 hr5 hL3 hR3 l0 l1 l2 lf0 lf1 lf2 r0 r1 r2 rf0 rf1 rf2 hr3 hy
      go_wp2
      refine bodyPost_ret (v := .tuple #[.agg #[(.int .i64 (a)), (.int .i64 (b)), (.int .i64 (c))], (.int .i64 (y))]) (by simp [results, Try.results75, go_sem, s0, s1, s2]) rfl ⟨a, b, c, y, rfl, ?_⟩
      exact ((HB.out.setCell (p := ⟨w.heap.size, 0, none⟩) (Nat.le_refl _) _).setCell (p := ⟨w.heap.size, 1, none⟩) (Nat.le_refl _) _).setCell (p := ⟨w.heap.size, 2, none⟩) (Nat.le_refl _) _
  · have hx' : (x == 0) = false := beq_eq_false_iff_ne.2 hx
    clear hg2 hg3 hr1 hr2 hG hB1 hx
    go_wp2_with fail
    go_region_with ((go_at_call 69; refine (d_pick g 6 _ _ (show IsRdB w3.drew g 6 from HA.out.1) (by omega)).mono ?_; rintro e w5 ⟨y, rfl, hy, hr5, hg5⟩; have hL5 := keepRow (w := w3.drew) hg5 hL3 (by omega); have hR5 := keepRow (w := w3.drew) hg5 hR3 (by omega); obtain ⟨k0, k1, k2, kf0, kf1, kf2⟩ := rowFacts hL5; obtain ⟨s0, s1, s2, sf0, sf1, sf2⟩ := rowFacts hR5))
    all_goals
      have HB : Hid (Below w.heap.size w w5) := (HA.out.2.drew).grown hg5 HA.out.2.size (fun k hk => by cases hk; omega)
      clear hL5 hR5 hg5 hr5 hL3 hR3 l0 l1 l2 lf0 lf1 lf2 r0 r1 r2 rf0 rf1 rf2 hr3 hy
      go_wp2
      refine bodyPost_ret (v := .tuple #[.agg #[(.int .i64 (a)), (.int .i64 (b)), (.int .i64 (c))], (.int .i64 (y))]) (by simp [results, Try.results75, go_sem, s0, s1, s2]) rfl ⟨a, b, c, y, rfl, ?_⟩
      exact ((HB.out.setCell (p := ⟨w.heap.size, 0, none⟩) (Nat.le_refl _) _).setCell (p := ⟨w.heap.size, 1, none⟩) (Nat.le_refl _) _).setCell (p := ⟨w.heap.size, 2, none⟩) (Nat.le_refl _) _

theorem c_DrawPlaceOf (v : Value) (cs : List Int) (w : World) (hv : RdL w v (cs.map (Value.int .u8))) (hl : cs.length ≤ 1099511627776) (hb : ∀ n ∈ cs, (Lit.int .u8 n).wf = true) (hcap : CapOk v) :
    Calls Try.prog 38 #[v] w (DrawLI w) := by
  have hv0 := hv
  obtain ⟨a, cap, rfl, hv1⟩ := hv0
  clear hv1
  simp only [List.length_map] at hv hcap ⊢
  go_enter Try.func38, Try.ntmps38
  go_wp2_with fail
  refine (c_DrawPagesNeeded _ cs _ (hv.kept ((Below.refl _ _).alloc (Nat.le_refl _) _)) hl hb hcap).mono ?_
  rintro e w1 ⟨a, b, c, n, rfl, hB1⟩
  clear hb hcap hv
  have hR1 : w1.heap[w.heap.size]? = _ := (hB1.block w.heap.size (by simp)).trans (heap_alloc_new w _)
  obtain ⟨r0, r1, r2, rf0, rf1, rf2⟩ := rowFacts hR1
  have HB : Hid (Below w.heap.size w w1) := balloc hB1
  clear hB1 hR1
  go_wp2
  refine bodyPost_ret (v := .tuple #[.agg #[(.int .i64 (a)), (.int .i64 (b)), (.int .i64 (c))], (.int .i64 (n))]) (by simp [results, Try.results38, go_sem, r0, r1, r2]) rfl ⟨a, b, c, n, rfl, ?_⟩
  exact ((HB.out.setCell (p := ⟨w.heap.size, 0, none⟩) (Nat.le_refl _) _).setCell (p := ⟨w.heap.size, 1, none⟩) (Nat.le_refl _) _).setCell (p := ⟨w.heap.size, 2, none⟩) (Nat.le_refl _) _
end Go.Proofs.Ytjlehpoicplmpaa
