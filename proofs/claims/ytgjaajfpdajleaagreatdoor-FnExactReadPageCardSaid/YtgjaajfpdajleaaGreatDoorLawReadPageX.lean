/- FnExactReadPage: the program's ReadPage returns what the reference's returns, for all arguments; it changes no argument, and what it returns is new memory each time. The tables that the card lists are tied to the program's text by the given tie. No condition. -/
import Derived.Test.YtgjaajfpdajleaaGreatDoorRp5
import Derived.Test.YtgjaajfpdajleaaGreatDoorNum0
import Derived.Test.YtgjaajfpdajleaaGreatDoorMstr
import Derived.Test.YtgjaajfpdajleaaGreatDoorTie
import Derived.Test.YtgjaajfpdajleaaGreatDoorCards
import Derived.LaidMore
import Derived.Lay
import Derived.LaidSub
import Derived.MakeChecks
import Derived.Stop.Joined
import Derived.SevenTiedAt
namespace Go.Proofs.YtgjaajfpdajleaaGreatDoor
set_option linter.unusedVariables false
open Go.ChangeShapes Go.WideShapes Go.ChangeAt Go.RowKit

theorem rpV_len (r a c : Int) (ys : List ByteArray) : (rpV r a c ys).length ≤ 60 := by
  unfold rpV
  by_cases h : rpB r a c ys = true
  · rw [if_pos h]
    have h1 := (rp_rd h).2.2.2.2.1
    exact (tabB_iff (pgB_iff (plin_lay h1)).2.1).2.1
  · rw [if_neg h]; simp

set_option maxHeartbeats 2000000 in
set_option maxRecDepth 100000 in
theorem walk_FnExactReadPage (r a c : Int) (va : Value) (ys : List ByteArray) {w : World} (hw : RdL w va (ys.map Value.string) ∧ ys.length ≤ 9223372036854775807 ∧ ∀ s ∈ ys, s.size ≤ 9223372036854775807) (htab : TabW w) (herr : ErrW w) (hmax : MaxW w) :
    Calls Tryz.prog 6 #[(.agg #[.int .i64 r, .int .i64 a, .int .i64 c]), va] w fun e w' => e = .returned (.bool true) ∧ Below w.heap.size w w' := by
  obtain ⟨hR, hlen, hsz⟩ := hw
  replace hR : RdS w va ys := hR
  have hR0 := hR
  obtain ⟨ba, cap, rfl, hR1⟩ := hR0
  clear hR1 hmax
  simp only [List.length_map] at hR ⊢
  by_cases hbig : ys.length + tot ys ≤ 1048576
  · have hl : ys.length ≤ 1048576 := by omega
    obtain ⟨r0, hr, hr0⟩ : ∃ r0, szR ys 1048576 = r0 ∧ 0 ≤ r0 := ⟨_, rfl, by unfold szR; rw [if_pos (by omega)]; omega⟩
    have hszz : ∀ s ∈ ys, s.size ≤ 1048576 := fun s h => by have := tot_mem h; omega
    have hLl := rpV_len r a c ys
    generalize hL : rpV r a c ys = L at hLl
    have HL : Hid (rpV r a c ys = L) := hL
    clear hL
    go_enter Tryz.func6, Tryz.ntmps6
    go_wp2_with fail
    refine (c_szStringS _ ys _ _ (hR.kept ((Below.refl _ _).alloc (Nat.le_refl _) _)) (by omega) hsz (by omega) (by omega)).mono ?_
    rintro e w1 ⟨he, hB⟩
    have hA : Below w.heap.size w w1 := (by first | exact hB | exact balloc hB)
    have t0 : w1.cell? ⟨w.heap.size, 0, none⟩ = some (.int .i64 (r)) := by rw [hB.cell (p := ⟨w.heap.size, 0, none⟩) (by simp)]; simp [go_sem]
    have t1 : w1.cell? ⟨w.heap.size, 1, none⟩ = some (.int .i64 (a)) := by rw [hB.cell (p := ⟨w.heap.size, 1, none⟩) (by simp)]; simp [go_sem]
    have t2 : w1.cell? ⟨w.heap.size, 2, none⟩ = some (.int .i64 (c)) := by rw [hB.cell (p := ⟨w.heap.size, 2, none⟩) (by simp)]; simp [go_sem]
    have hs1 := hB.size
    (try simp at hs1)
    clear hB
    rw [hr] at he; subst he
    go_wp2_with fail
    refine (c_toLayout _ _ _ _).mono ?_
    rintro e w2 ⟨rfl, hB⟩
    replace hA := bthen hA hB
    replace t0 : w2.cell? ⟨w.heap.size, 0, none⟩ = some (.int .i64 (r)) := by rw [hB.cell (p := ⟨w.heap.size, 0, none⟩) (by show w.heap.size < _; omega)]; exact t0
    replace t1 : w2.cell? ⟨w.heap.size, 1, none⟩ = some (.int .i64 (a)) := by rw [hB.cell (p := ⟨w.heap.size, 1, none⟩) (by show w.heap.size < _; omega)]; exact t1
    replace t2 : w2.cell? ⟨w.heap.size, 2, none⟩ = some (.int .i64 (c)) := by rw [hB.cell (p := ⟨w.heap.size, 2, none⟩) (by show w.heap.size < _; omega)]; exact t2
    have hs2 := hB.size
    clear hB
    go_wp2_with fail
    refine (k_to_strs _ ys _ (hR.kept hA) (by omega)).mono ?_
    rintro e w3 ⟨ta, rfl, o_ta, hB⟩
    replace hA := bthen hA hB
    replace t0 : w3.cell? ⟨w.heap.size, 0, none⟩ = some (.int .i64 (r)) := by rw [hB.cell (p := ⟨w.heap.size, 0, none⟩) (by show w.heap.size < _; omega)]; exact t0
    replace t1 : w3.cell? ⟨w.heap.size, 1, none⟩ = some (.int .i64 (a)) := by rw [hB.cell (p := ⟨w.heap.size, 1, none⟩) (by show w.heap.size < _; omega)]; exact t1
    replace t2 : w3.cell? ⟨w.heap.size, 2, none⟩ = some (.int .i64 (c)) := by rw [hB.cell (p := ⟨w.heap.size, 2, none⟩) (by show w.heap.size < _; omega)]; exact t2
    have hs3 := hB.size
    clear hB
    have lt_ta := fun k hk => (o_ta.lt k hk).2
    go_wp2_with fail
    refine (c_spec_ReadPage _ _ _ _ ys _ (owns_RdS o_ta) (by omega) hszz).mono ?_
    rintro e w4 ⟨ws, rfl, o_ws, hB⟩
    replace o_ta := ownsRow_kept_below o_ta hB
    replace hA := bthen hA hB
    replace t0 : w4.cell? ⟨w.heap.size, 0, none⟩ = some (.int .i64 (r)) := by rw [hB.cell (p := ⟨w.heap.size, 0, none⟩) (by show w.heap.size < _; omega)]; exact t0
    replace t1 : w4.cell? ⟨w.heap.size, 1, none⟩ = some (.int .i64 (a)) := by rw [hB.cell (p := ⟨w.heap.size, 1, none⟩) (by show w.heap.size < _; omega)]; exact t1
    replace t2 : w4.cell? ⟨w.heap.size, 2, none⟩ = some (.int .i64 (c)) := by rw [hB.cell (p := ⟨w.heap.size, 2, none⟩) (by show w.heap.size < _; omega)]; exact t2
    have hs4 := hB.size
    clear hB
    rw [HL.out] at o_ws
    have lt_ws := fun k hk => (o_ws.lt k hk).2
    clear o_ta
    go_wp2_with fail
    refine (k_to_strs _ ys _ (hR.kept hA) (by omega)).mono ?_
    rintro e w5 ⟨xa, rfl, o_xa, hB⟩
    replace o_ws := ownsRow_kept_below o_ws hB
    replace hA := bthen hA hB
    replace t0 : w5.cell? ⟨w.heap.size, 0, none⟩ = some (.int .i64 (r)) := by rw [hB.cell (p := ⟨w.heap.size, 0, none⟩) (by show w.heap.size < _; omega)]; exact t0
    replace t1 : w5.cell? ⟨w.heap.size, 1, none⟩ = some (.int .i64 (a)) := by rw [hB.cell (p := ⟨w.heap.size, 1, none⟩) (by show w.heap.size < _; omega)]; exact t1
    replace t2 : w5.cell? ⟨w.heap.size, 2, none⟩ = some (.int .i64 (c)) := by rw [hB.cell (p := ⟨w.heap.size, 2, none⟩) (by show w.heap.size < _; omega)]; exact t2
    have hs5 := hB.size
    clear hB
    have lt_xa := fun k hk => (o_xa.lt k hk).2
    go_wp2_with fail
    refine (c_toLayout _ _ _ _).mono ?_
    rintro e w6 ⟨rfl, hB⟩
    replace o_ws := ownsRow_kept_below o_ws hB
    replace o_xa := ownsRow_kept_below o_xa hB
    replace hA := bthen hA hB
    replace t0 : w6.cell? ⟨w.heap.size, 0, none⟩ = some (.int .i64 (r)) := by rw [hB.cell (p := ⟨w.heap.size, 0, none⟩) (by show w.heap.size < _; omega)]; exact t0
    replace t1 : w6.cell? ⟨w.heap.size, 1, none⟩ = some (.int .i64 (a)) := by rw [hB.cell (p := ⟨w.heap.size, 1, none⟩) (by show w.heap.size < _; omega)]; exact t1
    replace t2 : w6.cell? ⟨w.heap.size, 2, none⟩ = some (.int .i64 (c)) := by rw [hB.cell (p := ⟨w.heap.size, 2, none⟩) (by show w.heap.size < _; omega)]; exact t2
    have hs6 := hB.size
    clear hB
    go_wp2_with fail
    refine (c_impl_ReadPage _ _ _ _ ys _ (htab.below hA) (herr.below hA) (owns_RdS o_xa) (by omega) hszz).mono ?_
    rintro e w7 ⟨gs, rfl, o_gs, hB⟩
    replace o_ws := ownsRow_kept_below o_ws hB
    replace o_xa := ownsRow_kept_below o_xa hB
    replace hA := bthen hA hB
    replace t0 : w7.cell? ⟨w.heap.size, 0, none⟩ = some (.int .i64 (r)) := by rw [hB.cell (p := ⟨w.heap.size, 0, none⟩) (by show w.heap.size < _; omega)]; exact t0
    replace t1 : w7.cell? ⟨w.heap.size, 1, none⟩ = some (.int .i64 (a)) := by rw [hB.cell (p := ⟨w.heap.size, 1, none⟩) (by show w.heap.size < _; omega)]; exact t1
    replace t2 : w7.cell? ⟨w.heap.size, 2, none⟩ = some (.int .i64 (c)) := by rw [hB.cell (p := ⟨w.heap.size, 2, none⟩) (by show w.heap.size < _; omega)]; exact t2
    have hs7 := hB.size
    clear hB
    rw [HL.out] at o_gs
    have lt_gs := fun k hk => (o_gs.lt k hk).2
    go_wp2_with fail
    refine (k_eq_ints _ _ _ _ L _ o_gs o_ws (by omega)).mono ?_
    rintro e w8 ⟨rfl, hB⟩
    replace o_ws := ownsRow_kept_below o_ws hB
    replace o_xa := ownsRow_kept_below o_xa hB
    replace o_gs := ownsRow_kept_below o_gs hB
    replace hA := bthen hA hB
    replace t0 : w8.cell? ⟨w.heap.size, 0, none⟩ = some (.int .i64 (r)) := by rw [hB.cell (p := ⟨w.heap.size, 0, none⟩) (by show w.heap.size < _; omega)]; exact t0
    replace t1 : w8.cell? ⟨w.heap.size, 1, none⟩ = some (.int .i64 (a)) := by rw [hB.cell (p := ⟨w.heap.size, 1, none⟩) (by show w.heap.size < _; omega)]; exact t1
    replace t2 : w8.cell? ⟨w.heap.size, 2, none⟩ = some (.int .i64 (c)) := by rw [hB.cell (p := ⟨w.heap.size, 2, none⟩) (by show w.heap.size < _; omega)]; exact t2
    have hs8 := hB.size
    clear hB
    go_wp2_with fail
    refine (k_to_strs _ ys _ (hR.kept hA) (by omega)).mono ?_
    rintro e w9 ⟨ya, rfl, o_ya, hB⟩
    replace o_ws := ownsRow_kept_below o_ws hB
    replace o_xa := ownsRow_kept_below o_xa hB
    replace o_gs := ownsRow_kept_below o_gs hB
    replace hA := bthen hA hB
    replace t0 : w9.cell? ⟨w.heap.size, 0, none⟩ = some (.int .i64 (r)) := by rw [hB.cell (p := ⟨w.heap.size, 0, none⟩) (by show w.heap.size < _; omega)]; exact t0
    replace t1 : w9.cell? ⟨w.heap.size, 1, none⟩ = some (.int .i64 (a)) := by rw [hB.cell (p := ⟨w.heap.size, 1, none⟩) (by show w.heap.size < _; omega)]; exact t1
    replace t2 : w9.cell? ⟨w.heap.size, 2, none⟩ = some (.int .i64 (c)) := by rw [hB.cell (p := ⟨w.heap.size, 2, none⟩) (by show w.heap.size < _; omega)]; exact t2
    have hs9 := hB.size
    clear hB
    have lt_ya := fun k hk => (o_ya.lt k hk).2
    go_wp2_with fail
    refine (k_eq_strs _ _ _ _ ys _ o_xa o_ya (by omega)).mono ?_
    rintro e w10 ⟨rfl, hB⟩
    replace o_ws := ownsRow_kept_below o_ws hB
    replace o_xa := ownsRow_kept_below o_xa hB
    replace o_gs := ownsRow_kept_below o_gs hB
    replace o_ya := ownsRow_kept_below o_ya hB
    replace hA := bthen hA hB
    replace t0 : w10.cell? ⟨w.heap.size, 0, none⟩ = some (.int .i64 (r)) := by rw [hB.cell (p := ⟨w.heap.size, 0, none⟩) (by show w.heap.size < _; omega)]; exact t0
    replace t1 : w10.cell? ⟨w.heap.size, 1, none⟩ = some (.int .i64 (a)) := by rw [hB.cell (p := ⟨w.heap.size, 1, none⟩) (by show w.heap.size < _; omega)]; exact t1
    replace t2 : w10.cell? ⟨w.heap.size, 2, none⟩ = some (.int .i64 (c)) := by rw [hB.cell (p := ⟨w.heap.size, 2, none⟩) (by show w.heap.size < _; omega)]; exact t2
    have hs10 := hB.size
    clear hB
    clear o_ya
    go_wp2_with fail
    refine (k_mark_strs _ _ ys _ _ o_xa (by omega) (by omega) (by omega) (by omega)).mono ?_
    rintro e w11 ⟨rfl, o_xa, hB, hG⟩
    replace o_ws := ownsRow_kept_old o_ws hB (fun k hk => by have := lt_ws k hk; omega)
    replace o_gs := ownsRow_kept_new o_gs hG (fun k hk => by have := lt_xa k hk; omega)
    replace hA := hA.trans (hB.mono (by omega))
    replace t0 : w11.cell? ⟨w.heap.size, 0, none⟩ = some (.int .i64 (r)) := by rw [hB.cell (p := ⟨w.heap.size, 0, none⟩) (by show w.heap.size < _; omega)]; exact t0
    replace t1 : w11.cell? ⟨w.heap.size, 1, none⟩ = some (.int .i64 (a)) := by rw [hB.cell (p := ⟨w.heap.size, 1, none⟩) (by show w.heap.size < _; omega)]; exact t1
    replace t2 : w11.cell? ⟨w.heap.size, 2, none⟩ = some (.int .i64 (c)) := by rw [hB.cell (p := ⟨w.heap.size, 2, none⟩) (by show w.heap.size < _; omega)]; exact t2
    have hs11 := hB.size
    clear hB hG
    clear o_xa
    go_wp2_with fail
    refine (k_eq_ints _ _ _ _ L _ o_gs o_ws (by omega)).mono ?_
    rintro e w12 ⟨rfl, hB⟩
    replace o_ws := ownsRow_kept_below o_ws hB
    replace o_gs := ownsRow_kept_below o_gs hB
    replace hA := bthen hA hB
    replace t0 : w12.cell? ⟨w.heap.size, 0, none⟩ = some (.int .i64 (r)) := by rw [hB.cell (p := ⟨w.heap.size, 0, none⟩) (by show w.heap.size < _; omega)]; exact t0
    replace t1 : w12.cell? ⟨w.heap.size, 1, none⟩ = some (.int .i64 (a)) := by rw [hB.cell (p := ⟨w.heap.size, 1, none⟩) (by show w.heap.size < _; omega)]; exact t1
    replace t2 : w12.cell? ⟨w.heap.size, 2, none⟩ = some (.int .i64 (c)) := by rw [hB.cell (p := ⟨w.heap.size, 2, none⟩) (by show w.heap.size < _; omega)]; exact t2
    have hs12 := hB.size
    clear hB
    go_wp2_with fail
    refine (k_mark_ints _ _ L _ _ o_gs (by omega) (by omega) (by omega) (by omega)).mono ?_
    rintro e w13 ⟨rfl, o_gs, hB, hG⟩
    replace o_ws := ownsRow_kept_old o_ws hB (fun k hk => by have := lt_ws k hk; omega)
    replace hA := hA.trans (hB.mono (by omega))
    replace t0 : w13.cell? ⟨w.heap.size, 0, none⟩ = some (.int .i64 (r)) := by rw [hB.cell (p := ⟨w.heap.size, 0, none⟩) (by show w.heap.size < _; omega)]; exact t0
    replace t1 : w13.cell? ⟨w.heap.size, 1, none⟩ = some (.int .i64 (a)) := by rw [hB.cell (p := ⟨w.heap.size, 1, none⟩) (by show w.heap.size < _; omega)]; exact t1
    replace t2 : w13.cell? ⟨w.heap.size, 2, none⟩ = some (.int .i64 (c)) := by rw [hB.cell (p := ⟨w.heap.size, 2, none⟩) (by show w.heap.size < _; omega)]; exact t2
    have hs13 := hB.size
    clear hB hG
    go_wp2_with fail
    refine (k_held_ints _ _ _ L.length _ o_gs (by omega) (by omega) (by omega)).mono ?_
    rintro e w14 ⟨rfl, hB⟩
    replace o_ws := ownsRow_kept_below o_ws hB
    replace o_gs := ownsRow_kept_below o_gs hB
    replace hA := bthen hA hB
    replace t0 : w14.cell? ⟨w.heap.size, 0, none⟩ = some (.int .i64 (r)) := by rw [hB.cell (p := ⟨w.heap.size, 0, none⟩) (by show w.heap.size < _; omega)]; exact t0
    replace t1 : w14.cell? ⟨w.heap.size, 1, none⟩ = some (.int .i64 (a)) := by rw [hB.cell (p := ⟨w.heap.size, 1, none⟩) (by show w.heap.size < _; omega)]; exact t1
    replace t2 : w14.cell? ⟨w.heap.size, 2, none⟩ = some (.int .i64 (c)) := by rw [hB.cell (p := ⟨w.heap.size, 2, none⟩) (by show w.heap.size < _; omega)]; exact t2
    have hs14 := hB.size
    clear hB
    go_wp2_with fail
    refine (c_toLayout _ _ _ _).mono ?_
    rintro e w15 ⟨rfl, hB⟩
    replace o_ws := ownsRow_kept_below o_ws hB
    replace o_gs := ownsRow_kept_below o_gs hB
    replace hA := bthen hA hB
    replace t0 : w15.cell? ⟨w.heap.size, 0, none⟩ = some (.int .i64 (r)) := by rw [hB.cell (p := ⟨w.heap.size, 0, none⟩) (by show w.heap.size < _; omega)]; exact t0
    replace t1 : w15.cell? ⟨w.heap.size, 1, none⟩ = some (.int .i64 (a)) := by rw [hB.cell (p := ⟨w.heap.size, 1, none⟩) (by show w.heap.size < _; omega)]; exact t1
    replace t2 : w15.cell? ⟨w.heap.size, 2, none⟩ = some (.int .i64 (c)) := by rw [hB.cell (p := ⟨w.heap.size, 2, none⟩) (by show w.heap.size < _; omega)]; exact t2
    have hs15 := hB.size
    clear hB
    go_wp2_with fail
    refine (k_to_strs _ ys _ (hR.kept hA) (by omega)).mono ?_
    rintro e w16 ⟨za, rfl, o_za, hB⟩
    replace o_ws := ownsRow_kept_below o_ws hB
    replace o_gs := ownsRow_kept_below o_gs hB
    replace hA := bthen hA hB
    replace t0 : w16.cell? ⟨w.heap.size, 0, none⟩ = some (.int .i64 (r)) := by rw [hB.cell (p := ⟨w.heap.size, 0, none⟩) (by show w.heap.size < _; omega)]; exact t0
    replace t1 : w16.cell? ⟨w.heap.size, 1, none⟩ = some (.int .i64 (a)) := by rw [hB.cell (p := ⟨w.heap.size, 1, none⟩) (by show w.heap.size < _; omega)]; exact t1
    replace t2 : w16.cell? ⟨w.heap.size, 2, none⟩ = some (.int .i64 (c)) := by rw [hB.cell (p := ⟨w.heap.size, 2, none⟩) (by show w.heap.size < _; omega)]; exact t2
    have hs16 := hB.size
    clear hB
    have lt_za := fun k hk => (o_za.lt k hk).2
    go_wp2_with fail
    refine (c_impl_ReadPage _ _ _ _ ys _ (htab.below hA) (herr.below hA) (owns_RdS o_za) (by omega) hszz).mono ?_
    rintro e w17 ⟨hs, rfl, o_hs, hB⟩
    replace o_ws := ownsRow_kept_below o_ws hB
    replace o_gs := ownsRow_kept_below o_gs hB
    replace o_za := ownsRow_kept_below o_za hB
    replace hA := bthen hA hB
    replace t0 : w17.cell? ⟨w.heap.size, 0, none⟩ = some (.int .i64 (r)) := by rw [hB.cell (p := ⟨w.heap.size, 0, none⟩) (by show w.heap.size < _; omega)]; exact t0
    replace t1 : w17.cell? ⟨w.heap.size, 1, none⟩ = some (.int .i64 (a)) := by rw [hB.cell (p := ⟨w.heap.size, 1, none⟩) (by show w.heap.size < _; omega)]; exact t1
    replace t2 : w17.cell? ⟨w.heap.size, 2, none⟩ = some (.int .i64 (c)) := by rw [hB.cell (p := ⟨w.heap.size, 2, none⟩) (by show w.heap.size < _; omega)]; exact t2
    have hs17 := hB.size
    clear hB
    rw [HL.out] at o_hs
    have lt_hs := fun k hk => (o_hs.lt k hk).2
    clear o_za
    go_wp2_with fail
    refine (k_eq_ints _ _ _ _ L _ o_hs o_ws (by omega)).mono ?_
    rintro e w18 ⟨rfl, hB⟩
    replace o_ws := ownsRow_kept_below o_ws hB
    replace o_gs := ownsRow_kept_below o_gs hB
    replace o_hs := ownsRow_kept_below o_hs hB
    replace hA := bthen hA hB
    replace t0 : w18.cell? ⟨w.heap.size, 0, none⟩ = some (.int .i64 (r)) := by rw [hB.cell (p := ⟨w.heap.size, 0, none⟩) (by show w.heap.size < _; omega)]; exact t0
    replace t1 : w18.cell? ⟨w.heap.size, 1, none⟩ = some (.int .i64 (a)) := by rw [hB.cell (p := ⟨w.heap.size, 1, none⟩) (by show w.heap.size < _; omega)]; exact t1
    replace t2 : w18.cell? ⟨w.heap.size, 2, none⟩ = some (.int .i64 (c)) := by rw [hB.cell (p := ⟨w.heap.size, 2, none⟩) (by show w.heap.size < _; omega)]; exact t2
    have hs18 := hB.size
    clear hB
    go_wp2_with fail
    refine (k_held_ints _ _ _ L.length _ o_gs (by omega) (by omega) (by omega)).mono ?_
    rintro e w19 ⟨rfl, hB⟩
    replace o_ws := ownsRow_kept_below o_ws hB
    replace o_gs := ownsRow_kept_below o_gs hB
    replace o_hs := ownsRow_kept_below o_hs hB
    replace hA := bthen hA hB
    replace t0 : w19.cell? ⟨w.heap.size, 0, none⟩ = some (.int .i64 (r)) := by rw [hB.cell (p := ⟨w.heap.size, 0, none⟩) (by show w.heap.size < _; omega)]; exact t0
    replace t1 : w19.cell? ⟨w.heap.size, 1, none⟩ = some (.int .i64 (a)) := by rw [hB.cell (p := ⟨w.heap.size, 1, none⟩) (by show w.heap.size < _; omega)]; exact t1
    replace t2 : w19.cell? ⟨w.heap.size, 2, none⟩ = some (.int .i64 (c)) := by rw [hB.cell (p := ⟨w.heap.size, 2, none⟩) (by show w.heap.size < _; omega)]; exact t2
    have hs19 := hB.size
    clear hB
    go_wp2_with fail
    go_ret
    exact ⟨rfl, hA⟩
  · have hr : szR ys 1048576 = -1 := by unfold szR; rw [if_neg (by omega)]
    go_enter Tryz.func6, Tryz.ntmps6
    go_wp2_with fail
    refine (c_szStringS _ ys _ _ (hR.kept ((Below.refl _ _).alloc (Nat.le_refl _) _)) (by omega) hsz (by omega) (by omega)).mono ?_
    rintro e w1 ⟨he, hB⟩
    rw [hr] at he; subst he
    go_wp2
    go_ret
    exact ⟨rfl, balloc hB⟩

set_option maxRecDepth 100000 in
theorem lifted_FnExactReadPage (os : Os) (started : os.Started) (H : Type) (enc : TypeId × Value → H) :
    ReturnsInHanded {} Tryz.checked os 6 .any (fun w args => (Rows.fnExactReadPageSpec.pre enc Tryz.prog Tryz.f6 [] false w args ∧ laidMetH Tryz.prog Rows.fnExactReadPageRow.laid w) ∧ sizedMet enc Tryz.prog Tryz.f6 (OpenSpec.ofChange Rows.fnExactReadPageSpec) false w args)
      (Rows.fnExactReadPageSpec.post enc Tryz.prog Tryz.f6 false true false false) := by
  refine handed_shaped (C := Tryz.checked) (X := fun w _ => laidMetH Tryz.prog Rows.fnExactReadPageRow.laid w) (fun _ _ _ hh h => h.of_heap hh) own started (by kernel_rfl) Tryz.func6
    (ChangeSpec.witness_shaped (enc := enc) (C := Tryz.checked) (os := os) (X := fun w _ => laidMetH Tryz.prog Rows.fnExactReadPageRow.laid w) false (World.laidAll Tryz.prog os Rows.fnExactReadPageRow.laid) #[.agg #[.int .i64 0, .int .i64 0, .int .i64 0], .slice none 0 0] 8 (World.laidAll_os _ _ _)
      (World.shaped_of_ZipB (by kernel_rfl) (by kernel_rfl)) (by kernel_rfl) (by kernel_rfl) (by kernel_rfl) (by rw [MakeChecks.laidMetH_plain _ _ _ (by kernel_rfl)]; exact laidMet_laidAll _ (by kernel_rfl) (by kernel_rfl))) ?_
  intro W base args ds gs before hval0 hW hL hsh
  have hval : ∀ (j : Nat) t v, Tryz.f6.params[j]? = some t → args[j]? = some v → Value.okWide Tryz.prog W .any base t v := hval0
  have htab : TabW W := TabW.of_laid (by kernel_rfl) hL
  have herr : ErrW W := ErrW.of_laid (by kernel_rfl) hL
  have hmax : MaxW W := MaxW.of_shaped hsh
  have hW' := hW
  obtain ⟨p, q, hA0, hV, rfl, hfz, hnd⟩ := hW
  have hA : DataW.TrodAll enc Tryz.prog W 0 (fun _ => true) true Tryz.f6.params.toList args.toList ds p := hA0
  rw [Tryz.params6] at hA hval
  obtain ⟨v0, vs0, d0, ds0, p0, q0, hargs, rfl, rfl, h0, r0⟩ := trodAll_cons hA
  obtain ⟨v1, vs1, d1, ds1, p1, q1, rfl, rfl, rfl, h1, r1⟩ := trodAll_cons r0
  obtain ⟨rfl, rfl, rfl⟩ := trodAll_nil r1
  obtain rfl : args = #[v0, v1] := by cases args; simp_all
  obtain ⟨rfl, rfl⟩ := trodVars_none hV
  obtain ⟨x0, y0, z0, rfl⟩ := open_lay (hval 0 23 v0 rfl rfl) h0
  obtain ⟨l1, w1⟩ := open_strs (hval 1 40 v1 rfl rfl) h1
  refine (walk_FnExactReadPage x0 y0 z0 v1 l1 w1 htab herr hmax).mono fun e W' ⟨he, hg⟩ => ?_
  subst he
  exact ⟨_, rfl, law_post laidOut hW' rfl (by kernel_rfl) rfl Tryz.underlying4 rfl rfl rfl rfl hg⟩
theorem factA_FnExactReadPage : factsA Tryz.prog 6 Tryz.f6 Rows.fnExactReadPageSpec Rows.fnExactReadPageRow = true := by kernel_rfl
theorem fact9_FnExactReadPage : (Rows.fnExactReadPageRow.inPlace == Tryz.prog.inPlace 6) = true := by kernel_rfl
theorem fact10_FnExactReadPage : (Rows.fnExactReadPageRow.unfollowed == Tryz.prog.unfollowed 6) = true := by kernel_rfl
theorem fact11_FnExactReadPage : (Rows.fnExactReadPageRow.recurses == Tryz.prog.recurses 6) = true := by kernel_rfl
theorem fact12_FnExactReadPage : (Rows.fnExactReadPageRow.named == Tryz.prog.varsNamed 6) = true := by kernel_rfl
theorem factB_FnExactReadPage : factsB Tryz.prog 6 Tryz.f6 Rows.fnExactReadPageSpec Rows.fnExactReadPageRow = true := by kernel_rfl
theorem factN_FnExactReadPage : Tryz.prog.funcNamed Rows.fnExactReadPageRow.func = some 6 := by kernel_rfl
theorem proved_FnExactReadPage : Rows.FnExactReadPageSaid :=
  OpenClaim.holds_of_wide 6 Tryz.f6 rfl rfl rfl rfl rfl rfl rfl ⟨rfl, rfl, rfl, rfl, rfl⟩ rfl rfl rfl rfl rfl factN_FnExactReadPage Tryz.func6 (closed_of factA_FnExactReadPage fact9_FnExactReadPage fact10_FnExactReadPage fact11_FnExactReadPage fact12_FnExactReadPage factB_FnExactReadPage rfl rfl rfl)
    (of_decide_eq_true (by kernel_rfl)) (by unfold Func.isWrapper; first | (rw [if_pos (by decide +kernel)]; kernel_rfl) | (rw [if_neg (by decide +kernel)]; exact ⟨rfl, rfl⟩))
    (fun os started H enc _ => lifted_FnExactReadPage os started H enc)
theorem card_FnExactReadPage : Rows.FnExactReadPageCardSaid :=
  Claim7.holds_tied_plain_at .later [] [.data, .data, .data, .data, .sentinel, .sentinel, .pinned] true (true, "730894ce3fdd1c60b1cd13fd3d8d0eaff75b6a36daf9ceb74fd76b5c933006d2") true
    proved_FnExactReadPage (fun _ h => by cases h) (by kernel_rfl) (fun _ h => by cases h) fnExactReadPage_row_tie rfl ⟨rfl, rfl⟩ (by kernel_rfl) rfl
    (fun f fn hf hfn => by
      obtain rfl : f = 6 := Option.some.inj (factN_FnExactReadPage.symm.trans hf) |>.symm
      obtain rfl : fn = Tryz.f6 := (Option.some.inj (Tryz.func6.symm.trans hfn)).symm
      exact ⟨by kernel_rfl, fun j t ht => by
        rw [Tryz.params6] at ht
        have hm : t ∈ [23, 40] := by simpa using Array.mem_of_getElem? ht
        have hall : ([23, 40].all fun u => !Tryz.prog.wantsStandIn u) = true := by kernel_rfl
        exact (show Tryz.prog.wantsStandIn t = false by simpa using List.all_eq_true.1 hall t hm)⟩)
    (by kernel_rfl)
end Go.Proofs.YtgjaajfpdajleaaGreatDoor
