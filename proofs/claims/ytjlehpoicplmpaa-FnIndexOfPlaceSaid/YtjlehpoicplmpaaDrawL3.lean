/- Contracts of a drawn place. -/
import Derived.Test.YtjlehpoicplmpaaDrawL2
namespace Go.Proofs.Ytjlehpoicplmpaa
set_option linter.unusedVariables false
open Go.RowKit

def DrawLIII (w : World) (e : Ending) (w' : World) : Prop :=
  ∃ a b c n m k : Int, e = .returned (.tuple #[.agg #[.int .i64 a, .int .i64 b, .int .i64 c], .int .i64 n, .int .i64 m, .int .i64 k]) ∧ (-9223372036854775807 ≤ m ∧ m ≤ 9223372036854775807) ∧ Below w.heap.size w w'

/-- what is carried along: the source, the rows of l and of the result -/
def Keep (w : World) (g P R L : Nat) (a b c : Value) (w0 w3 : World) : Prop :=
  IsRdB w3 g P ∧ Below R w w3 ∧ w3.heap[L]? = some (.cells #[a, b, c] 41 (0, 0)) ∧ w3.heap[R]? = some (.cells #[.int .i64 0, .int .i64 0, .int .i64 0] 41 (0, 0))
theorem Keep.step {w w0 w3 w4 : World} {g P P' R L : Nat} {a b c : Value} (h : Keep w g P R L a b c w0 w3) (hr : IsRdB w4 g P') (hg : w3.grownBy w4 (some g)) (h1 : R < g) (h2 : L ≠ g) (hR : R ≤ w3.heap.size) : Keep w g P' R L a b c w0 w4 :=
  ⟨hr, h.2.1.grown hg hR (fun k hk => by cases hk; omega), keepRow hg h.2.2.1 h2, keepRow hg h.2.2.2 (by omega)⟩

set_option maxRecDepth 100000 in
set_option maxHeartbeats 1600000 in
theorem c_DrawIndexOfPlace (v : Value) (cs : List Int) (w : World) (hv : RdL w v (cs.map (Value.int .u8))) (hl : cs.length ≤ 1099511627776) (hb : ∀ n ∈ cs, (Lit.int .u8 n).wf = true) (hcap : CapOk v) :
    Calls Try.prog 34 #[v] w (DrawLIII w) := by
  have hv0 := hv
  obtain ⟨a, cap, rfl, hv1⟩ := hv0
  clear hv1
  simp only [List.length_map] at hv hcap ⊢
  go_enter Try.func34, Try.ntmps34
  go_wp2_with fail
  refine (c_l9Open _ cs _ (hv.kept ((Below.refl _ _).alloc (Nat.le_refl _) _)) hl hb hcap).mono ?_
  rintro e w1 ⟨g, rfl, hr1, hgb, hB1⟩
  clear hb hcap hv
  simp at hgb
  have hR1 : w1.heap[w.heap.size]? = _ := (hB1.block w.heap.size (by simp)).trans (heap_alloc_new w _)
  go_wp2_with fail
  refine (c_l6Layout g 0 w1 hr1 (by omega)).mono ?_
  rintro e w2 ⟨a, b, c, rfl, hr2, hg2⟩
  have hR2 := keepRow hg2 hR1 (by omega)
  have hs1 := hB1.size
  have hs2 := hg2.size
  have hgl := hr1.lt
  simp at hs1
  clear hR1
  have HR2 : Hid _ := hR2
  clear hR2
  go_wp2_with fail
  refine (d_pick g 5 _ _ (hr2.alloc _) (by omega)).mono ?_
  rintro e w3 ⟨page, rfl, hq1, hr3, hg3⟩
  have hs3 := hg3.size
  simp at hs3
  have hK : Keep w g 6 w.heap.size w2.heap.size (.int .i64 (a)) (.int .i64 (b)) (.int .i64 (c)) w w3 := by
    refine ⟨hr3, ?_, keepRow (b := w2.heap.size) hg3 (heap_alloc_new w2 _) (by omega), keepRow (b := w.heap.size) hg3 ((Below.heap_alloc w2 _ _ (by omega)).trans HR2.out) (by omega)⟩
    exact (((Below.refl _ _).alloc (Nat.le_refl _) _).trans (hB1.mono (by simp))).grown (grownBy_trans hg2 (grownBy_trans (World.grownBy_alloc _ _ _) hg3)) (by omega) (fun k hk => by cases hk; omega)
  clear hr3 hg3 hg2 hr1 hB1 hr2 hq1
  go_wp2_with fail
  refine (d_pick g 6 _ _ hK.1 (by omega)).mono ?_
  rintro e w4 ⟨row, rfl, ⟨q1, q2⟩, hr4, hg4⟩
  have hK := hK.step hr4 hg4 (by omega) (by omega) (by omega)
  have hs4 := hg4.size
  clear hr4 hg4
  go_wp2_with fail
  refine (d_pick g 7 _ _ hK.1 (by omega)).mono ?_
  rintro e w5 ⟨x, rfl, ⟨x1, x2⟩, hr5, hg5⟩
  have hK := hK.step hr5 hg5 (by omega) (by omega) (by omega)
  have hs5 := hg5.size
  clear hr5 hg5
  by_cases hx : x = 0
  · subst hx
    go_wp2_with fail
    refine (d_numlit g 8 [-1, 59, 60, 9223372036854775807] w5 hK.1 (by omega) (by decide) (by decide)).mono ?_
    rintro e w6 ⟨page2, rfl, hpg, hr6, hg6⟩
    have hK := hK.step hr6 hg6 (by omega) (by omega) (by omega)
    have hs6 := hg6.size
    clear hr6 hg6 hpg
    go_wp2_with fail
    refine (d_pick g 9 _ _ hK.1 (by omega)).mono ?_
    rintro e w7 ⟨z, rfl, ⟨z1, z2⟩, hr7, hg7⟩
    have hK := hK.step hr7 hg7 (by omega) (by omega) (by omega)
    have hs7 := hg7.size
    clear hr7 hg7
    by_cases hz : z = 0
    · subst hz
      go_wp2_with fail
      refine (d_numlit g 10 [-1, 9223372036854775807] w7 hK.1 (by omega) (by decide) (by decide)).mono ?_
      rintro e w8 ⟨row2, rfl, hrow, hr8, hg8⟩
      have hK := hK.step hr8 hg8 (by omega) (by omega) (by omega)
      have hs8 := hg8.size
      have hrow2 : -9223372036854775807 ≤ row2 ∧ row2 ≤ 9223372036854775807 := by simp at hrow; omega
      clear hr8 hg8 hrow
      have hL3 := hK.2.2.1
      have hR3 := hK.2.2.2
      obtain ⟨l0, l1, l2, lf0, lf1, lf2⟩ := rowFacts hL3
      obtain ⟨r0, r1, r2, rf0, rf1, rf2⟩ := rowFacts hR3
      have HA : Hid (IsRdB w8 g 11 ∧ Below w.heap.size w w8 ∧ (-9223372036854775807 ≤ row2 ∧ row2 ≤ 9223372036854775807)) := ⟨hK.1, hK.2.1, by omega⟩
      clear hK
      go_wp2_with fail
      go_region_with ((go_at_call 69; refine (d_pick g 11 _ _ (show IsRdB w8.drew g 11 from HA.out.1) (by omega)).mono ?_; rintro e wf ⟨y, rfl, hy, hrf, hgf⟩; have hL5 := keepRow (w := w8.drew) hgf hL3 (by omega); have hR5 := keepRow (w := w8.drew) hgf hR3 (by omega); obtain ⟨k0, k1, k2, kf0, kf1, kf2⟩ := rowFacts hL5; obtain ⟨s0, s1, s2, sf0, sf1, sf2⟩ := rowFacts hR5))
      all_goals
        have HB : Hid (Below w.heap.size w wf) := (HA.out.2.1.drew).grown hgf HA.out.2.1.size (fun k hk => by cases hk; omega)
        clear hL5 hR5 hgf hrf hL3 hR3 l0 l1 l2 lf0 lf1 lf2 r0 r1 r2 rf0 rf1 rf2 hy
        go_wp2
        refine bodyPost_ret (v := .tuple #[.agg #[(.int .i64 (a)), (.int .i64 (b)), (.int .i64 (c))], (.int .i64 (page2)), (.int .i64 (row2)), (.int .i64 (y))]) (by simp [results, Try.results34, go_sem, s0, s1, s2]) rfl ⟨a, b, c, page2, row2, y, rfl, HA.out.2.2, ?_⟩
        exact ((HB.out.setCell (p := ⟨w.heap.size, 0, none⟩) (Nat.le_refl _) _).setCell (p := ⟨w.heap.size, 1, none⟩) (Nat.le_refl _) _).setCell (p := ⟨w.heap.size, 2, none⟩) (Nat.le_refl _) _
    · have hz' : (z == 0) = false := beq_eq_false_iff_ne.2 hz
      clear hz
      have hL3 := hK.2.2.1
      have hR3 := hK.2.2.2
      obtain ⟨l0, l1, l2, lf0, lf1, lf2⟩ := rowFacts hL3
      obtain ⟨r0, r1, r2, rf0, rf1, rf2⟩ := rowFacts hR3
      have HA : Hid (IsRdB w7 g 10 ∧ Below w.heap.size w w7 ∧ (-9223372036854775807 ≤ row ∧ row ≤ 9223372036854775807)) := ⟨hK.1, hK.2.1, by omega⟩
      clear hK
      go_wp2_with fail
      go_region_with ((go_at_call 69; refine (d_pick g 10 _ _ (show IsRdB w7.drew g 10 from HA.out.1) (by omega)).mono ?_; rintro e wf ⟨y, rfl, hy, hrf, hgf⟩; have hL5 := keepRow (w := w7.drew) hgf hL3 (by omega); have hR5 := keepRow (w := w7.drew) hgf hR3 (by omega); obtain ⟨k0, k1, k2, kf0, kf1, kf2⟩ := rowFacts hL5; obtain ⟨s0, s1, s2, sf0, sf1, sf2⟩ := rowFacts hR5))
      all_goals
        have HB : Hid (Below w.heap.size w wf) := (HA.out.2.1.drew).grown hgf HA.out.2.1.size (fun k hk => by cases hk; omega)
        clear hL5 hR5 hgf hrf hL3 hR3 l0 l1 l2 lf0 lf1 lf2 r0 r1 r2 rf0 rf1 rf2 hy
        go_wp2
        refine bodyPost_ret (v := .tuple #[.agg #[(.int .i64 (a)), (.int .i64 (b)), (.int .i64 (c))], (.int .i64 (page2)), (.int .i64 (row)), (.int .i64 (y))]) (by simp [results, Try.results34, go_sem, s0, s1, s2]) rfl ⟨a, b, c, page2, row, y, rfl, HA.out.2.2, ?_⟩
        exact ((HB.out.setCell (p := ⟨w.heap.size, 0, none⟩) (Nat.le_refl _) _).setCell (p := ⟨w.heap.size, 1, none⟩) (Nat.le_refl _) _).setCell (p := ⟨w.heap.size, 2, none⟩) (Nat.le_refl _) _
  · have hx' : (x == 0) = false := beq_eq_false_iff_ne.2 hx
    clear hx
    go_wp2_with fail
    refine (d_pick g 8 _ _ hK.1 (by omega)).mono ?_
    rintro e w7 ⟨z, rfl, ⟨z1, z2⟩, hr7, hg7⟩
    have hK := hK.step hr7 hg7 (by omega) (by omega) (by omega)
    have hs7 := hg7.size
    clear hr7 hg7
    by_cases hz : z = 0
    · subst hz
      go_wp2_with fail
      refine (d_numlit g 9 [-1, 9223372036854775807] w7 hK.1 (by omega) (by decide) (by decide)).mono ?_
      rintro e w8 ⟨row2, rfl, hrow, hr8, hg8⟩
      have hK := hK.step hr8 hg8 (by omega) (by omega) (by omega)
      have hs8 := hg8.size
      have hrow2 : -9223372036854775807 ≤ row2 ∧ row2 ≤ 9223372036854775807 := by simp at hrow; omega
      clear hr8 hg8 hrow
      have hL3 := hK.2.2.1
      have hR3 := hK.2.2.2
      obtain ⟨l0, l1, l2, lf0, lf1, lf2⟩ := rowFacts hL3
      obtain ⟨r0, r1, r2, rf0, rf1, rf2⟩ := rowFacts hR3
      have HA : Hid (IsRdB w8 g 10 ∧ Below w.heap.size w w8 ∧ (-9223372036854775807 ≤ row2 ∧ row2 ≤ 9223372036854775807)) := ⟨hK.1, hK.2.1, by omega⟩
      clear hK
      go_wp2_with fail
      go_region_with ((go_at_call 69; refine (d_pick g 10 _ _ (show IsRdB w8.drew g 10 from HA.out.1) (by omega)).mono ?_; rintro e wf ⟨y, rfl, hy, hrf, hgf⟩; have hL5 := keepRow (w := w8.drew) hgf hL3 (by omega); have hR5 := keepRow (w := w8.drew) hgf hR3 (by omega); obtain ⟨k0, k1, k2, kf0, kf1, kf2⟩ := rowFacts hL5; obtain ⟨s0, s1, s2, sf0, sf1, sf2⟩ := rowFacts hR5))
      all_goals
        have HB : Hid (Below w.heap.size w wf) := (HA.out.2.1.drew).grown hgf HA.out.2.1.size (fun k hk => by cases hk; omega)
        clear hL5 hR5 hgf hrf hL3 hR3 l0 l1 l2 lf0 lf1 lf2 r0 r1 r2 rf0 rf1 rf2 hy
        go_wp2
        refine bodyPost_ret (v := .tuple #[.agg #[(.int .i64 (a)), (.int .i64 (b)), (.int .i64 (c))], (.int .i64 (page)), (.int .i64 (row2)), (.int .i64 (y))]) (by simp [results, Try.results34, go_sem, s0, s1, s2]) rfl ⟨a, b, c, page, row2, y, rfl, HA.out.2.2, ?_⟩
        exact ((HB.out.setCell (p := ⟨w.heap.size, 0, none⟩) (Nat.le_refl _) _).setCell (p := ⟨w.heap.size, 1, none⟩) (Nat.le_refl _) _).setCell (p := ⟨w.heap.size, 2, none⟩) (Nat.le_refl _) _
    · have hz' : (z == 0) = false := beq_eq_false_iff_ne.2 hz
      clear hz
      have hL3 := hK.2.2.1
      have hR3 := hK.2.2.2
      obtain ⟨l0, l1, l2, lf0, lf1, lf2⟩ := rowFacts hL3
      obtain ⟨r0, r1, r2, rf0, rf1, rf2⟩ := rowFacts hR3
      have HA : Hid (IsRdB w7 g 9 ∧ Below w.heap.size w w7 ∧ (-9223372036854775807 ≤ row ∧ row ≤ 9223372036854775807)) := ⟨hK.1, hK.2.1, by omega⟩
      clear hK
      go_wp2_with fail
      go_region_with ((go_at_call 69; refine (d_pick g 9 _ _ (show IsRdB w7.drew g 9 from HA.out.1) (by omega)).mono ?_; rintro e wf ⟨y, rfl, hy, hrf, hgf⟩; have hL5 := keepRow (w := w7.drew) hgf hL3 (by omega); have hR5 := keepRow (w := w7.drew) hgf hR3 (by omega); obtain ⟨k0, k1, k2, kf0, kf1, kf2⟩ := rowFacts hL5; obtain ⟨s0, s1, s2, sf0, sf1, sf2⟩ := rowFacts hR5))
      all_goals
        have HB : Hid (Below w.heap.size w wf) := (HA.out.2.1.drew).grown hgf HA.out.2.1.size (fun k hk => by cases hk; omega)
        clear hL5 hR5 hgf hrf hL3 hR3 l0 l1 l2 lf0 lf1 lf2 r0 r1 r2 rf0 rf1 rf2 hy
        go_wp2
        refine bodyPost_ret (v := .tuple #[.agg #[(.int .i64 (a)), (.int .i64 (b)), (.int .i64 (c))], (.int .i64 (page)), (.int .i64 (row)), (.int .i64 (y))]) (by simp [results, Try.results34, go_sem, s0, s1, s2]) rfl ⟨a, b, c, page, row, y, rfl, HA.out.2.2, ?_⟩
        exact ((HB.out.setCell (p := ⟨w.heap.size, 0, none⟩) (Nat.le_refl _) _).setCell (p := ⟨w.heap.size, 1, none⟩) (Nat.le_refl _) _).setCell (p := ⟨w.heap.size, 2, none⟩) (Nat.le_refl _) _
end Go.Proofs.Ytjlehpoicplmpaa
