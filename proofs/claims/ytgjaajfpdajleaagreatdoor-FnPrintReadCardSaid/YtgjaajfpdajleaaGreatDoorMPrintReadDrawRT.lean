/- Lemmas and contracts for PrintRead (DrawRT): plain words on memory, contracts of the functions that the law reaches. No condition but what each states. -/
import Derived.Test.YtgjaajfpdajleaaGreatDoorMPrintReadDrawP
import Derived.Test.YtgjaajfpdajleaaGreatDoorMPrintReadDrawS
import Derived.Test.YtgjaajfpdajleaaGreatDoorMPrintReadPt1
import Derived.Test.YtgjaajfpdajleaaGreatDoorMPrintReadSpP
import Derived.Test.YtgjaajfpdajleaaGreatDoorMPrintReadShort2
namespace Go.Proofs.YtgjaajfpdajleaaGreatDoor
set_option linter.unusedVariables false
open Go.RowKit

def DrawLRow (w : World) (e : Ending) (w' : World) : Prop :=
  ∃ a b c : Int, ∃ v xs, e = .returned (.tuple #[.agg #[.int .i64 a, .int .i64 b, .int .i64 c], v]) ∧ OwnI w' w.heap.size v xs ∧ xs.length ≤ 61 ∧ Below w.heap.size w w'
def DrawLT (w : World) (e : Ending) (w' : World) : Prop :=
  ∃ a b c : Int, ∃ Y : ByteArray, e = .returned (.tuple #[.agg #[.int .i64 a, .int .i64 b, .int .i64 c], .string Y]) ∧ Y.size ≤ 4100 ∧ Below w.heap.size w w'
theorem own_set_ne {w : World} {base e : Nat} {v : Value} {n : Nat} {xs : List Value} {b : Nat} (h : w.ownsRow base e 1 v n xs) (hb : ∀ k, v.ownBlock = some k → b ≠ k) (o : Nat) (u : Value) : (w.setCell ⟨b, o, none⟩ u).ownsRow base e 1 v n xs := by
  refine h.kept (grownBy_setCell w b o u) ?_
  cases hv : v.ownBlock with
  | none => exact .inl rfl
  | some k => exact .inr (fun e => by cases e; exact hb _ hv rfl)
theorem below_set3 {w W : World} {R : Nat} {u0 u1 u2 : Value} (h : Below w.heap.size w W) (hR : w.heap.size ≤ R) : Below w.heap.size w (((W.setCell ⟨R, 0, none⟩ u0).setCell ⟨R, 1, none⟩ u1).setCell ⟨R, 2, none⟩ u2) :=
  ((h.setCell (p := ⟨R, 0, none⟩) hR _).setCell (p := ⟨R, 1, none⟩) hR _).setCell (p := ⟨R, 2, none⟩) hR _
theorem keepRowB {w w' : World} {b : Nat} {v0 v1 v2 : Value} {t : TypeId} (hB : Below w.heap.size w w') (hb : w.heap[b]? = some (.cells #[v0, v1, v2] t (0, 0))) : w'.heap[b]? = some (.cells #[v0, v1, v2] t (0, 0)) := by
  rw [hB.block b (Array.getElem?_eq_some_iff.1 hb).1]; exact hb

set_option maxRecDepth 100000 in
set_option maxHeartbeats 1600000 in
theorem c_DrawPrintTable (v : Value) (cs : List Int) (w : World) (hv : RdL w v (cs.map (Value.int .u8))) (hl : cs.length ≤ 1099511627776) (hb : ∀ n ∈ cs, (Lit.int .u8 n).wf = true) (hcap : CapOk v) :
    Calls Tryz.prog 40 #[v] w (DrawLRow w) := by
  have hv0 := hv
  obtain ⟨a, cap, rfl, hv1⟩ := hv0
  clear hv1
  simp only [List.length_map] at hv hcap ⊢
  go_enter Tryz.func40, Tryz.ntmps40
  go_wp2_with fail
  refine (c_DrawPageLines _ cs _ (hv.kept ((Below.refl _ _).alloc (Nat.le_refl _) _)) hl hb hcap).mono ?_
  rintro e w1 ⟨a, b, c, v1, xs1, n, rfl, ho, hx, hB⟩
  have hR1 : w1.heap[w.heap.size]? = some (.cells #[(.int .i64 (0)), (.int .i64 (0)), (.int .i64 (0))] 27 (0, 0)) := (hB.block w.heap.size (by simp)).trans (heap_alloc_new w _)
  obtain ⟨r0, r1, r2, rf0, rf1, rf2⟩ := rowFacts hR1
  have hs1 : w.heap.size < w1.heap.size := by have := hB.size; simp at this; omega
  have hF : Hid (OwnI w1 (w.heap.size + 1) v1 xs1 ∧ Below w.heap.size w w1) := ⟨by simpa [OwnI] using ho, balloc hB⟩
  clear ho hB hv hb hcap hR1
  go_wp2
  have ho2 := hF.out.1
  refine bodyPost_ret (v := .tuple #[.agg #[(.int .i64 (a)), (.int .i64 (b)), (.int .i64 (c))], v1]) (by simp [results, Tryz.results40, go_sem, r0, r1, r2, hs1]) rfl ⟨a, b, c, v1, xs1, rfl, ?_, hx, ?_⟩
  · refine ownsRow_mono (base := w.heap.size + 1) (World.ownsRow.alloc ?_ _) (by omega)
    exact own_set_ne (own_set_ne (own_set_ne ho2 (fun k hk => by have := (ho2.lt k hk).1; omega) 0 _) (fun k hk => by have := (ho2.lt k hk).1; omega) 1 _) (fun k hk => by have := (ho2.lt k hk).1; omega) 2 _
  · have h := below_set3 (u0 := (.int .i64 (a))) (u1 := (.int .i64 (b))) (u2 := (.int .i64 (c))) hF.out.2 (Nat.le_refl w.heap.size)
    exact h.alloc h.size _
theorem ptF_small (r a c : Int) (xs : List Int) : (ptF r a c xs).length ≤ 2000 := by
  by_cases h : ptB r a c xs = true
  · obtain ⟨R, A, C, rfl, rfl, rfl⟩ := lay_nat (ptV_parts h).1
    rw [ptF_of h]; exact pt_len h
  · unfold ptF; rw [if_neg h]; simp
theorem slice_toQ (y : ByteArray) (n : Nat) (h : n ≤ y.size) : ∃ T, (∀ W, (Instr.slice 9 (.string y) none (some (.int .i64 (n : Int))) none).run Tryz.prog W = .ok (.string T) W) ∧ T.size ≤ y.size := by
  refine ⟨y.extract 0 n, fun W => ?_, by rw [ByteArray.size_extract]; omega⟩
  rw [run_slice_string_to_if W 9 y .i64 n Tryz.underlying9, if_pos (by omega), Int.toNat_natCast]
theorem keepL {wa wb : World} {L g : Nat} {u0 u1 u2 : Value} (h : wa.cell? ⟨L, 0, none⟩ = some u0 ∧ wa.cell? ⟨L, 1, none⟩ = some u1 ∧ wa.cell? ⟨L, 2, none⟩ = some u2) (hg : wa.grownBy wb (some g)) (hne : L ≠ g) :
    wb.cell? ⟨L, 0, none⟩ = some u0 ∧ wb.cell? ⟨L, 1, none⟩ = some u1 ∧ wb.cell? ⟨L, 2, none⟩ = some u2 := by
  obtain ⟨h0, h1, h2⟩ := h
  have hh := hg.block L (World.block_lt_of_cell? wa _ h0) (fun e => hne (by cases e; rfl))
  exact ⟨(World.cell?_of_block (a := ⟨L, 0, none⟩) hh).trans h0, (World.cell?_of_block (a := ⟨L, 1, none⟩) hh).trans h1, (World.cell?_of_block (a := ⟨L, 2, none⟩) hh).trans h2⟩
theorem keepL_set {wa : World} {L R o : Nat} {u u0 u1 u2 : Value} (h : wa.cell? ⟨L, 0, none⟩ = some u0 ∧ wa.cell? ⟨L, 1, none⟩ = some u1 ∧ wa.cell? ⟨L, 2, none⟩ = some u2) (hne : L ≠ R) :
    (wa.setCell ⟨R, o, none⟩ u).cell? ⟨L, 0, none⟩ = some u0 ∧ (wa.setCell ⟨R, o, none⟩ u).cell? ⟨L, 1, none⟩ = some u1 ∧ (wa.setCell ⟨R, o, none⟩ u).cell? ⟨L, 2, none⟩ = some u2 := by
  obtain ⟨h0, h1, h2⟩ := h
  have hh : (wa.setCell ⟨R, o, none⟩ u).heap[L]? = wa.heap[L]? := Below.heap_setCell _ _ _ _ (fun e => hne e)
  exact ⟨(World.cell?_of_block (a := ⟨L, 0, none⟩) hh).trans h0, (World.cell?_of_block (a := ⟨L, 1, none⟩) hh).trans h1, (World.cell?_of_block (a := ⟨L, 2, none⟩) hh).trans h2⟩

set_option maxRecDepth 100000 in
set_option maxHeartbeats 3200000 in
theorem c_DrawReadTable (v : Value) (cs : List Int) (w : World) (hv : RdL w v (cs.map (Value.int .u8))) (hl : cs.length ≤ 1099511627776) (hb : ∀ n ∈ cs, (Lit.int .u8 n).wf = true) (hcap : CapOk v) :
    Calls Tryz.prog 16 #[v] w (DrawLT w) := by
  have hv0 := hv
  obtain ⟨a, cap, rfl, hv1⟩ := hv0
  clear hv1
  simp only [List.length_map] at hv hcap ⊢
  go_enter Tryz.func16, Tryz.ntmps16
  go_wp2_with fail
  refine (c_l9Open _ cs _ (hv.kept ((Below.refl _ _).alloc (Nat.le_refl _) _)) hl hb hcap).mono ?_
  rintro e w1 ⟨g, rfl, hr1, hgb, hB1⟩
  have hR1 : w1.heap[w.heap.size]? = some (.cells #[(.int .i64 (0)), (.int .i64 (0)), (.int .i64 (0))] 27 (0, 0)) := (hB1.block w.heap.size (by simp)).trans (heap_alloc_new w _)
  have hA1 : Below w.heap.size w w1 := balloc hB1
  have hgl := hr1.lt
  simp at hgb
  go_wp2_with fail
  refine (c_DrawPageLines _ cs w1 (hv.kept hA1) hl hb hcap).mono ?_
  rintro e w2 ⟨a, b, c, v2, xs2, n, rfl, ho2, hx2, hB2⟩
  have hA2 := bthen hA1 hB2
  have hR2 := keepRowB hB2 hR1
  have hr2 := hr1.kept hB2
  have hs2 := hB2.size
  clear hB1 hB2 hA1 hR1 hr1 hv hb hcap
  have HA2 : Hid (OwnI w2 w1.heap.size v2 xs2 ∧ Below w.heap.size w w2 ∧ IsRdB w2 g 0 ∧ w2.heap[w.heap.size]? = some (.cells #[(.int .i64 (0)), (.int .i64 (0)), (.int .i64 (0))] 27 (0, 0))) := ⟨ho2, hA2, hr2, hR2⟩
  clear ho2 hA2 hr2 hR2
  go_wp2_with fail
  refine (c_spec_PrintTable a b c _ xs2 _ (owns_RdI (HA2.out.1.alloc _)) (by omega)).mono ?_
  rintro e w3 ⟨t, rfl, ht, hB3⟩
  have hts : t.size ≤ 2000 := by rw [ht.size]; exact ptF_small _ _ _ _
  have hs3 := hB3.size
  simp at hs3
  have hr3 : IsRdB w3 g 0 := (HA2.out.2.2.1.alloc _).kept hB3
  have hL3 := keepRowB hB3 (heap_alloc_new w2 _)
  have hR3 : w3.heap[w.heap.size]? = some (.cells #[(.int .i64 (0)), (.int .i64 (0)), (.int .i64 (0))] 27 (0, 0)) := keepRowB hB3 ((Below.heap_alloc w2 _ _ (by omega)).trans HA2.out.2.2.2)
  have hA3 : Below w.heap.size w w3 := (HA2.out.2.1.alloc (by omega) _).trans (hB3.mono (by simp; omega))
  clear hB3 ht HA2
  go_wp2_with fail
  refine (d_pick g 0 _ w3 hr3 (by omega)).mono ?_
  rintro e w4 ⟨x1, rfl, ⟨hxa, hxb⟩, hr4, hg4⟩
  have hL4 := keepRow hg4 hL3 (by omega)
  have hR4 := keepRow hg4 hR3 (by omega)
  have hA4 := hA3.grown hg4 (by omega) (fun k hk => by cases hk; omega)
  have hs4 := hg4.size
  clear hg4 hr3 hL3 hR3 hA3 hxb
  by_cases h0 : x1 = 0
  · have e0 : (x1 == 0) = true := beq_iff_eq.2 h0
    obtain ⟨l0, l1, l2, lf0, lf1, lf2⟩ := rowFacts hL4
    obtain ⟨r0, r1, r2, rf0, rf1, rf2⟩ := rowFacts hR4
    have hF := Lib.hid hA4
    clear h0 hL4 hR4 hA4 hr4
    go_wp2
    refine bodyPost_ret (v := .tuple #[.agg #[(.int .i64 (a)), (.int .i64 (b)), (.int .i64 (c))], .string t]) (by simp [results, Tryz.results16, go_sem, r0, r1, r2]) rfl ⟨a, b, c, t, rfl, by omega, below_set3 hF.out (Nat.le_refl _)⟩
  · have e0 : (x1 == 0) = false := beq_eq_false_iff_ne.2 h0
    clear h0
    go_wp2_with fail
    refine (d_pick g _ _ w4 hr4 (by omega)).mono ?_
    rintro e w5 ⟨x2, rfl, ⟨hxa2, hxb2⟩, hr, hg5⟩
    have hL5 := keepRow hg5 hL4 (by omega)
    have hR5 := keepRow hg5 hR4 (by omega)
    have hA5 := hA4.grown hg5 (by omega) (fun k hk => by cases hk; omega)
    have hs5 := hg5.size
    obtain ⟨k, rfl⟩ : ∃ k : Nat, x2 = k := ⟨x2.toNat, by omega⟩
    have hk : k ≤ t.size := by omega
    clear hg5 hr4 hL4 hR4 hA4 hxb2
    obtain ⟨U, g2, hUs⟩ := slice_toQ t k hk
    have i1 : (0 : Int) ≤ (k : Int) := by omega
    have i2 : (k : Int) ≤ (t.size : Int) := by omega
    replace hr : IsRdB w5.drew g (0 + 1 + 1) := hr
    have hG : w5.drew.grownBy w5.drew (some g) := World.grownBy.refl _ _
    have hgl5 : g < w5.drew.heap.size := hr.lt
    have hLg : w2.heap.size ≠ g := by omega
    have hLR : w2.heap.size ≠ w.heap.size := by omega
    have hlw1 : w2.heap.size < w5.heap.size := by omega
    have hlw2 : w.heap.size < w5.heap.size := by omega
    obtain ⟨r0, r1, r2, rf0, rf1, rf2⟩ := rowFacts hR5
    obtain ⟨l0, l1, l2, lf0, lf1, lf2⟩ := rowFacts hL5
    have hS0 : w5.drew.cell? ⟨w2.heap.size, 0, none⟩ = some (.int .i64 (a)) ∧ w5.drew.cell? ⟨w2.heap.size, 1, none⟩ = some (.int .i64 (b)) ∧ w5.drew.cell? ⟨w2.heap.size, 2, none⟩ = some (.int .i64 (c)) := ⟨l0, l1, l2⟩
    have HR5 : Hid (w5.drew.heap[w.heap.size]? = some (.cells #[(.int .i64 (0)), (.int .i64 (0)), (.int .i64 (0))] 27 (0, 0))) := hR5
    clear hL5 hR5
    go_wp2
    go_region_held3 (fun wx => wx.cell? ⟨w2.heap.size, 0, none⟩ = some (.int .i64 (a)) ∧ wx.cell? ⟨w2.heap.size, 1, none⟩ = some (.int .i64 (b)) ∧ wx.cell? ⟨w2.heap.size, 2, none⟩ = some (.int .i64 (c))) (first | assumption | exact hS0 | exact keepL_set (by assumption) hLR | exact keepL_set (keepL_set (by assumption) hLR) hLR | exact keepL_set (keepL_set (keepL_set (by assumption) hLR) hLR) hLR | exact keepL (by assumption) (by assumption) hLg | exact keepL hS0 (World.grownBy_alloc _ _ (some g)) hLg | exact keepL hS0 (World.grownBy_alloc w5.drew _ (some g)) hLg) (first
      | (go_at_call 52; refine (d_strlit g _ [⟨#[]⟩, ⟨#[32]⟩, ⟨#[48]⟩, ⟨#[10]⟩, ⟨#[120]⟩] _ hr (by omega) (by decide) (by decide)).mono ?_; rintro e wa ⟨z, rfl, hz, hr, hg⟩; have hzs : z.size ≤ 1 := (show ∀ s ∈ ([⟨#[]⟩, ⟨#[32]⟩, ⟨#[48]⟩, ⟨#[10]⟩, ⟨#[120]⟩] : List ByteArray), s.size ≤ 1 by decide) z hz; have hG := grownBy_trans hG hg; have hSx := keepL hS0 hg hLg; have h1 : (9223372036854775807 < U.size + z.size) = False := eq_false (by omega); try (have h2 : (9223372036854775807 < U.size + z.size + T.size) = False := eq_false (by omega)))
      | (go_at_call 51; refine (d_pick g _ _ _ (by first | exact hr | exact hr.alloc _) (by omega)).mono ?_; rintro e wa ⟨x7, rfl, ⟨hxa7, hxb7⟩, hr, hg⟩; obtain ⟨N, rfl⟩ : ∃ N : Nat, x7 = N := ⟨x7.toNat, by omega⟩; have hN : N ≤ 1 := (by omega); obtain ⟨M, hM1, hM2⟩ : ∃ M : Nat, min ((k : Int) + (N : Int)) (t.size : Int) = (M : Int) ∧ M ≤ t.size := ⟨min (k + N) t.size, by omega, by omega⟩; obtain ⟨T, g3, hTs, _⟩ := slice_fromT t M hM2; have hw : IntKind.i64.wrap ((k : Int) + (N : Int)) = (k : Int) + (N : Int) := IntWalk.i64_in _ (by omega); have hG : w5.drew.grownBy wa (some g) := grownBy_trans hG hg; have hSx := keepL (by assumption) hg hLg; obtain ⟨r0, r1, r2, rf0, rf1, rf2⟩ := rowFacts (keepRow hG HR5.out (by omega)); try (have h2 : (9223372036854775807 < U.size + z.size + T.size) = False := eq_false (by omega))))
    all_goals
      have hF : Hid ((U ++ z ++ T).size ≤ 4100 ∧ Below w.heap.size w wa) := ⟨by rw [ByteArray.size_append, ByteArray.size_append]; omega, hA5.drew.grown hG (by show w.heap.size ≤ w5.heap.size; omega) (fun k hk => by cases hk; omega)⟩
      clear hG hr hg hA5
      go_wp2
      refine bodyPost_ret (v := .tuple #[.agg #[(.int .i64 (a)), (.int .i64 (b)), (.int .i64 (c))], .string (U ++ z ++ T)]) (by simp [results, Tryz.results16, go_sem, r0, r1, r2]) rfl ⟨a, b, c, _, rfl, hF.out.1, below_set3 hF.out.2 (Nat.le_refl _)⟩
end Go.Proofs.YtgjaajfpdajleaaGreatDoor
