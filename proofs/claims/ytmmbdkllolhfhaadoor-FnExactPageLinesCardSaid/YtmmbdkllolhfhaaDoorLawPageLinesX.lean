/- FnExactPageLines: the program's PageLines returns what the reference's returns, for all arguments; it changes no argument, and what it returns is new memory each time. The tables that the card lists are tied to the program's text by the given tie. No condition. -/
import Derived.Test.YtmmbdkllolhfhaaDoorPg5
import Derived.Test.YtmmbdkllolhfhaaDoorMstr
import Derived.Test.YtmmbdkllolhfhaaDoorTie
import Derived.Test.YtmmbdkllolhfhaaDoorCards
import Derived.LaidMore
import Derived.Lay
import Derived.LaidSub
import Derived.MakeChecks
import Derived.Stop.Joined
import Derived.SevenTiedAt
namespace Go.Proofs.YtmmbdkllolhfhaaDoor
set_option linter.unusedVariables false
open Go.ChangeShapes Go.WideShapes Go.ChangeAt Go.RowKit

theorem k_impl_PageLines (r a c : Int) (v : Value) (xs : List Int) (p : Int) (w : World) (htab : TabW w) {base : Nat} (ho : OwnI w base v xs) (hx : xs.length ≤ 1099511627776) :
    Calls Tryd.prog 13 #[(.agg #[.int .i64 r, .int .i64 a, .int .i64 c]), v, (.int .i64 (p))] w (FreshSB w (plinS r a c xs p) (plinB r a c xs p)) := by
  have hr := owns_RdI ho
  obtain ⟨b, cap, rfl, h1, h2⟩ := own_cap ho
  exact c_impl_PageLines r a c b cap xs p w htab hr hx h1 h2
theorem plinS_len (r a c : Int) (xs : List Int) (p : Int) : (plinS r a c xs p).length ≤ 20 := by
  unfold plinS
  by_cases h : pgB r a c xs p = true
  · rw [if_pos h]
    obtain ⟨hl, _⟩ := pgB_iff h
    obtain ⟨l1, l2, _⟩ := lay_mul hl
    unfold pgeF
    split
    · rw [pgLn_len]; unfold pgN; omega
    · simp
  · rw [if_neg h]; simp

set_option maxHeartbeats 2000000 in
set_option maxRecDepth 100000 in
theorem walk_FnExactPageLines (r a c : Int) (va : Value) (xs : List Int) {w : World} (hw : RdL w va (xs.map (Value.int .i64)) ∧ xs.length ≤ 9223372036854775807 ∧ ∀ n ∈ xs, (Lit.int .i64 n).wf = true)
    (p : Int) (_ : (Lit.int .i64 p).wf = true) (htab : TabW w) :
    Calls Tryd.prog 4 #[(.agg #[.int .i64 r, .int .i64 a, .int .i64 c]), va, (.int .i64 (p))] w fun e w' => e = .returned (.bool true) ∧ Below w.heap.size w w' := by
  obtain ⟨hR, hlen, _⟩ := hw
  replace hR : RdI w va xs := hR
  have hR0 := hR
  obtain ⟨ba, cap, rfl, hR1⟩ := hR0
  clear hR1
  simp only [List.length_map] at hR ⊢
  by_cases hbig : 1048576 < xs.length
  · go_enter Tryd.func4, Tryd.ntmps4
    go_wp2
    go_ret
    exact ⟨rfl, (Below.refl _ _).alloc (Nat.le_refl _) _⟩
  · have hl := plinS_len r a c xs p
    generalize hL : plinS r a c xs p = L at hl
    have HL : Hid (plinS r a c xs p = L) := hL
    clear hL
    go_enter Tryd.func4, Tryd.ntmps4
    go_wp2_with fail
    refine (c_toLayout _ _ _ _).mono ?_
    rintro e w1 ⟨rfl, hB⟩
    have hA : Below w.heap.size w w1 := (by first | exact hB | exact balloc hB)
    have t0 : w1.cell? ⟨w.heap.size, 0, none⟩ = some (.int .i64 (r)) := by rw [hB.cell (p := ⟨w.heap.size, 0, none⟩) (by simp)]; simp [go_sem]
    have t1 : w1.cell? ⟨w.heap.size, 1, none⟩ = some (.int .i64 (a)) := by rw [hB.cell (p := ⟨w.heap.size, 1, none⟩) (by simp)]; simp [go_sem]
    have t2 : w1.cell? ⟨w.heap.size, 2, none⟩ = some (.int .i64 (c)) := by rw [hB.cell (p := ⟨w.heap.size, 2, none⟩) (by simp)]; simp [go_sem]
    have hs1 := hB.size
    (try simp at hs1)
    clear hB
    go_wp2_with fail
    refine (k_to_ints _ xs _ (hR.kept hA) (by omega)).mono ?_
    rintro e w2 ⟨ta, rfl, o_ta, hB⟩
    replace hA := bthen hA hB
    replace t0 : w2.cell? ⟨w.heap.size, 0, none⟩ = some (.int .i64 (r)) := by rw [hB.cell (p := ⟨w.heap.size, 0, none⟩) (by show w.heap.size < _; omega)]; exact t0
    replace t1 : w2.cell? ⟨w.heap.size, 1, none⟩ = some (.int .i64 (a)) := by rw [hB.cell (p := ⟨w.heap.size, 1, none⟩) (by show w.heap.size < _; omega)]; exact t1
    replace t2 : w2.cell? ⟨w.heap.size, 2, none⟩ = some (.int .i64 (c)) := by rw [hB.cell (p := ⟨w.heap.size, 2, none⟩) (by show w.heap.size < _; omega)]; exact t2
    have hs2 := hB.size
    clear hB
    have lt_ta := fun k hk => (o_ta.lt k hk).2
    go_wp2_with fail
    refine (c_spec_PageLines _ _ _ _ xs _ _ (owns_RdI o_ta) (by omega)).mono ?_
    rintro e w3 ⟨ws, rfl, o_ws, hB⟩
    replace o_ta := ownsRow_kept_below o_ta hB
    replace hA := bthen hA hB
    replace t0 : w3.cell? ⟨w.heap.size, 0, none⟩ = some (.int .i64 (r)) := by rw [hB.cell (p := ⟨w.heap.size, 0, none⟩) (by show w.heap.size < _; omega)]; exact t0
    replace t1 : w3.cell? ⟨w.heap.size, 1, none⟩ = some (.int .i64 (a)) := by rw [hB.cell (p := ⟨w.heap.size, 1, none⟩) (by show w.heap.size < _; omega)]; exact t1
    replace t2 : w3.cell? ⟨w.heap.size, 2, none⟩ = some (.int .i64 (c)) := by rw [hB.cell (p := ⟨w.heap.size, 2, none⟩) (by show w.heap.size < _; omega)]; exact t2
    have hs3 := hB.size
    clear hB
    rw [HL.out] at o_ws
    have lt_ws := fun k hk => (o_ws.lt k hk).2
    clear o_ta
    go_wp2_with fail
    refine (k_to_ints _ xs _ (hR.kept hA) (by omega)).mono ?_
    rintro e w4 ⟨xa, rfl, o_xa, hB⟩
    replace o_ws := ownsRow_kept_below o_ws hB
    replace hA := bthen hA hB
    replace t0 : w4.cell? ⟨w.heap.size, 0, none⟩ = some (.int .i64 (r)) := by rw [hB.cell (p := ⟨w.heap.size, 0, none⟩) (by show w.heap.size < _; omega)]; exact t0
    replace t1 : w4.cell? ⟨w.heap.size, 1, none⟩ = some (.int .i64 (a)) := by rw [hB.cell (p := ⟨w.heap.size, 1, none⟩) (by show w.heap.size < _; omega)]; exact t1
    replace t2 : w4.cell? ⟨w.heap.size, 2, none⟩ = some (.int .i64 (c)) := by rw [hB.cell (p := ⟨w.heap.size, 2, none⟩) (by show w.heap.size < _; omega)]; exact t2
    have hs4 := hB.size
    clear hB
    have lt_xa := fun k hk => (o_xa.lt k hk).2
    go_wp2_with fail
    refine (c_toLayout _ _ _ _).mono ?_
    rintro e w5 ⟨rfl, hB⟩
    replace o_ws := ownsRow_kept_below o_ws hB
    replace o_xa := ownsRow_kept_below o_xa hB
    replace hA := bthen hA hB
    replace t0 : w5.cell? ⟨w.heap.size, 0, none⟩ = some (.int .i64 (r)) := by rw [hB.cell (p := ⟨w.heap.size, 0, none⟩) (by show w.heap.size < _; omega)]; exact t0
    replace t1 : w5.cell? ⟨w.heap.size, 1, none⟩ = some (.int .i64 (a)) := by rw [hB.cell (p := ⟨w.heap.size, 1, none⟩) (by show w.heap.size < _; omega)]; exact t1
    replace t2 : w5.cell? ⟨w.heap.size, 2, none⟩ = some (.int .i64 (c)) := by rw [hB.cell (p := ⟨w.heap.size, 2, none⟩) (by show w.heap.size < _; omega)]; exact t2
    have hs5 := hB.size
    clear hB
    go_wp2_with fail
    refine (k_impl_PageLines _ _ _ _ xs _ _ (htab.below hA) o_xa (by omega)).mono ?_
    rintro e w6 ⟨gs, rfl, o_gs, hB⟩
    replace o_ws := ownsRow_kept_below o_ws hB
    replace o_xa := ownsRow_kept_below o_xa hB
    replace hA := bthen hA hB
    replace t0 : w6.cell? ⟨w.heap.size, 0, none⟩ = some (.int .i64 (r)) := by rw [hB.cell (p := ⟨w.heap.size, 0, none⟩) (by show w.heap.size < _; omega)]; exact t0
    replace t1 : w6.cell? ⟨w.heap.size, 1, none⟩ = some (.int .i64 (a)) := by rw [hB.cell (p := ⟨w.heap.size, 1, none⟩) (by show w.heap.size < _; omega)]; exact t1
    replace t2 : w6.cell? ⟨w.heap.size, 2, none⟩ = some (.int .i64 (c)) := by rw [hB.cell (p := ⟨w.heap.size, 2, none⟩) (by show w.heap.size < _; omega)]; exact t2
    have hs6 := hB.size
    clear hB
    rw [HL.out] at o_gs
    have lt_gs := fun k hk => (o_gs.lt k hk).2
    go_wp2_with fail
    refine (k_eq_strs _ _ _ _ L _ o_gs o_ws (by omega)).mono ?_
    rintro e w7 ⟨rfl, hB⟩
    replace o_ws := ownsRow_kept_below o_ws hB
    replace o_xa := ownsRow_kept_below o_xa hB
    replace o_gs := ownsRow_kept_below o_gs hB
    replace hA := bthen hA hB
    replace t0 : w7.cell? ⟨w.heap.size, 0, none⟩ = some (.int .i64 (r)) := by rw [hB.cell (p := ⟨w.heap.size, 0, none⟩) (by show w.heap.size < _; omega)]; exact t0
    replace t1 : w7.cell? ⟨w.heap.size, 1, none⟩ = some (.int .i64 (a)) := by rw [hB.cell (p := ⟨w.heap.size, 1, none⟩) (by show w.heap.size < _; omega)]; exact t1
    replace t2 : w7.cell? ⟨w.heap.size, 2, none⟩ = some (.int .i64 (c)) := by rw [hB.cell (p := ⟨w.heap.size, 2, none⟩) (by show w.heap.size < _; omega)]; exact t2
    have hs7 := hB.size
    clear hB
    go_wp2_with fail
    refine (k_to_ints _ xs _ (hR.kept hA) (by omega)).mono ?_
    rintro e w8 ⟨ya, rfl, o_ya, hB⟩
    replace o_ws := ownsRow_kept_below o_ws hB
    replace o_xa := ownsRow_kept_below o_xa hB
    replace o_gs := ownsRow_kept_below o_gs hB
    replace hA := bthen hA hB
    replace t0 : w8.cell? ⟨w.heap.size, 0, none⟩ = some (.int .i64 (r)) := by rw [hB.cell (p := ⟨w.heap.size, 0, none⟩) (by show w.heap.size < _; omega)]; exact t0
    replace t1 : w8.cell? ⟨w.heap.size, 1, none⟩ = some (.int .i64 (a)) := by rw [hB.cell (p := ⟨w.heap.size, 1, none⟩) (by show w.heap.size < _; omega)]; exact t1
    replace t2 : w8.cell? ⟨w.heap.size, 2, none⟩ = some (.int .i64 (c)) := by rw [hB.cell (p := ⟨w.heap.size, 2, none⟩) (by show w.heap.size < _; omega)]; exact t2
    have hs8 := hB.size
    clear hB
    have lt_ya := fun k hk => (o_ya.lt k hk).2
    go_wp2_with fail
    refine (k_eq_ints _ _ _ _ xs _ o_xa o_ya (by omega)).mono ?_
    rintro e w9 ⟨rfl, hB⟩
    replace o_ws := ownsRow_kept_below o_ws hB
    replace o_xa := ownsRow_kept_below o_xa hB
    replace o_gs := ownsRow_kept_below o_gs hB
    replace o_ya := ownsRow_kept_below o_ya hB
    replace hA := bthen hA hB
    replace t0 : w9.cell? ⟨w.heap.size, 0, none⟩ = some (.int .i64 (r)) := by rw [hB.cell (p := ⟨w.heap.size, 0, none⟩) (by show w.heap.size < _; omega)]; exact t0
    replace t1 : w9.cell? ⟨w.heap.size, 1, none⟩ = some (.int .i64 (a)) := by rw [hB.cell (p := ⟨w.heap.size, 1, none⟩) (by show w.heap.size < _; omega)]; exact t1
    replace t2 : w9.cell? ⟨w.heap.size, 2, none⟩ = some (.int .i64 (c)) := by rw [hB.cell (p := ⟨w.heap.size, 2, none⟩) (by show w.heap.size < _; omega)]; exact t2
    have hs9 := hB.size
    clear hB
    clear o_ya
    go_wp2_with fail
    refine (k_mark_ints _ _ xs _ _ o_xa (by omega) (by omega) (by omega) (by omega)).mono ?_
    rintro e w10 ⟨rfl, o_xa, hB, hG⟩
    replace o_ws := ownsRow_kept_old o_ws hB (fun k hk => by have := lt_ws k hk; omega)
    replace o_gs := ownsRow_kept_new o_gs hG (fun k hk => by have := lt_xa k hk; omega)
    replace hA := hA.trans (hB.mono (by omega))
    replace t0 : w10.cell? ⟨w.heap.size, 0, none⟩ = some (.int .i64 (r)) := by rw [hB.cell (p := ⟨w.heap.size, 0, none⟩) (by show w.heap.size < _; omega)]; exact t0
    replace t1 : w10.cell? ⟨w.heap.size, 1, none⟩ = some (.int .i64 (a)) := by rw [hB.cell (p := ⟨w.heap.size, 1, none⟩) (by show w.heap.size < _; omega)]; exact t1
    replace t2 : w10.cell? ⟨w.heap.size, 2, none⟩ = some (.int .i64 (c)) := by rw [hB.cell (p := ⟨w.heap.size, 2, none⟩) (by show w.heap.size < _; omega)]; exact t2
    have hs10 := hB.size
    clear hB hG
    clear o_xa
    go_wp2_with fail
    refine (k_eq_strs _ _ _ _ L _ o_gs o_ws (by omega)).mono ?_
    rintro e w11 ⟨rfl, hB⟩
    replace o_ws := ownsRow_kept_below o_ws hB
    replace o_gs := ownsRow_kept_below o_gs hB
    replace hA := bthen hA hB
    replace t0 : w11.cell? ⟨w.heap.size, 0, none⟩ = some (.int .i64 (r)) := by rw [hB.cell (p := ⟨w.heap.size, 0, none⟩) (by show w.heap.size < _; omega)]; exact t0
    replace t1 : w11.cell? ⟨w.heap.size, 1, none⟩ = some (.int .i64 (a)) := by rw [hB.cell (p := ⟨w.heap.size, 1, none⟩) (by show w.heap.size < _; omega)]; exact t1
    replace t2 : w11.cell? ⟨w.heap.size, 2, none⟩ = some (.int .i64 (c)) := by rw [hB.cell (p := ⟨w.heap.size, 2, none⟩) (by show w.heap.size < _; omega)]; exact t2
    have hs11 := hB.size
    clear hB
    go_wp2_with fail
    refine (k_mark_strs _ _ L _ _ o_gs (by omega) (by omega) (by omega) (by omega)).mono ?_
    rintro e w12 ⟨rfl, o_gs, hB, hG⟩
    replace o_ws := ownsRow_kept_old o_ws hB (fun k hk => by have := lt_ws k hk; omega)
    replace hA := hA.trans (hB.mono (by omega))
    replace t0 : w12.cell? ⟨w.heap.size, 0, none⟩ = some (.int .i64 (r)) := by rw [hB.cell (p := ⟨w.heap.size, 0, none⟩) (by show w.heap.size < _; omega)]; exact t0
    replace t1 : w12.cell? ⟨w.heap.size, 1, none⟩ = some (.int .i64 (a)) := by rw [hB.cell (p := ⟨w.heap.size, 1, none⟩) (by show w.heap.size < _; omega)]; exact t1
    replace t2 : w12.cell? ⟨w.heap.size, 2, none⟩ = some (.int .i64 (c)) := by rw [hB.cell (p := ⟨w.heap.size, 2, none⟩) (by show w.heap.size < _; omega)]; exact t2
    have hs12 := hB.size
    clear hB hG
    go_wp2_with fail
    refine (k_held_strs _ _ _ L.length _ o_gs (by omega) (by omega) (by omega)).mono ?_
    rintro e w13 ⟨rfl, hB⟩
    replace o_ws := ownsRow_kept_below o_ws hB
    replace o_gs := ownsRow_kept_below o_gs hB
    replace hA := bthen hA hB
    replace t0 : w13.cell? ⟨w.heap.size, 0, none⟩ = some (.int .i64 (r)) := by rw [hB.cell (p := ⟨w.heap.size, 0, none⟩) (by show w.heap.size < _; omega)]; exact t0
    replace t1 : w13.cell? ⟨w.heap.size, 1, none⟩ = some (.int .i64 (a)) := by rw [hB.cell (p := ⟨w.heap.size, 1, none⟩) (by show w.heap.size < _; omega)]; exact t1
    replace t2 : w13.cell? ⟨w.heap.size, 2, none⟩ = some (.int .i64 (c)) := by rw [hB.cell (p := ⟨w.heap.size, 2, none⟩) (by show w.heap.size < _; omega)]; exact t2
    have hs13 := hB.size
    clear hB
    go_wp2_with fail
    refine (c_toLayout _ _ _ _).mono ?_
    rintro e w14 ⟨rfl, hB⟩
    replace o_ws := ownsRow_kept_below o_ws hB
    replace o_gs := ownsRow_kept_below o_gs hB
    replace hA := bthen hA hB
    replace t0 : w14.cell? ⟨w.heap.size, 0, none⟩ = some (.int .i64 (r)) := by rw [hB.cell (p := ⟨w.heap.size, 0, none⟩) (by show w.heap.size < _; omega)]; exact t0
    replace t1 : w14.cell? ⟨w.heap.size, 1, none⟩ = some (.int .i64 (a)) := by rw [hB.cell (p := ⟨w.heap.size, 1, none⟩) (by show w.heap.size < _; omega)]; exact t1
    replace t2 : w14.cell? ⟨w.heap.size, 2, none⟩ = some (.int .i64 (c)) := by rw [hB.cell (p := ⟨w.heap.size, 2, none⟩) (by show w.heap.size < _; omega)]; exact t2
    have hs14 := hB.size
    clear hB
    go_wp2_with fail
    refine (k_to_ints _ xs _ (hR.kept hA) (by omega)).mono ?_
    rintro e w15 ⟨za, rfl, o_za, hB⟩
    replace o_ws := ownsRow_kept_below o_ws hB
    replace o_gs := ownsRow_kept_below o_gs hB
    replace hA := bthen hA hB
    replace t0 : w15.cell? ⟨w.heap.size, 0, none⟩ = some (.int .i64 (r)) := by rw [hB.cell (p := ⟨w.heap.size, 0, none⟩) (by show w.heap.size < _; omega)]; exact t0
    replace t1 : w15.cell? ⟨w.heap.size, 1, none⟩ = some (.int .i64 (a)) := by rw [hB.cell (p := ⟨w.heap.size, 1, none⟩) (by show w.heap.size < _; omega)]; exact t1
    replace t2 : w15.cell? ⟨w.heap.size, 2, none⟩ = some (.int .i64 (c)) := by rw [hB.cell (p := ⟨w.heap.size, 2, none⟩) (by show w.heap.size < _; omega)]; exact t2
    have hs15 := hB.size
    clear hB
    have lt_za := fun k hk => (o_za.lt k hk).2
    go_wp2_with fail
    refine (k_impl_PageLines _ _ _ _ xs _ _ (htab.below hA) o_za (by omega)).mono ?_
    rintro e w16 ⟨hs, rfl, o_hs, hB⟩
    replace o_ws := ownsRow_kept_below o_ws hB
    replace o_gs := ownsRow_kept_below o_gs hB
    replace o_za := ownsRow_kept_below o_za hB
    replace hA := bthen hA hB
    replace t0 : w16.cell? ⟨w.heap.size, 0, none⟩ = some (.int .i64 (r)) := by rw [hB.cell (p := ⟨w.heap.size, 0, none⟩) (by show w.heap.size < _; omega)]; exact t0
    replace t1 : w16.cell? ⟨w.heap.size, 1, none⟩ = some (.int .i64 (a)) := by rw [hB.cell (p := ⟨w.heap.size, 1, none⟩) (by show w.heap.size < _; omega)]; exact t1
    replace t2 : w16.cell? ⟨w.heap.size, 2, none⟩ = some (.int .i64 (c)) := by rw [hB.cell (p := ⟨w.heap.size, 2, none⟩) (by show w.heap.size < _; omega)]; exact t2
    have hs16 := hB.size
    clear hB
    rw [HL.out] at o_hs
    have lt_hs := fun k hk => (o_hs.lt k hk).2
    clear o_za
    go_wp2_with fail
    refine (k_eq_strs _ _ _ _ L _ o_hs o_ws (by omega)).mono ?_
    rintro e w17 ⟨rfl, hB⟩
    replace o_ws := ownsRow_kept_below o_ws hB
    replace o_gs := ownsRow_kept_below o_gs hB
    replace o_hs := ownsRow_kept_below o_hs hB
    replace hA := bthen hA hB
    replace t0 : w17.cell? ⟨w.heap.size, 0, none⟩ = some (.int .i64 (r)) := by rw [hB.cell (p := ⟨w.heap.size, 0, none⟩) (by show w.heap.size < _; omega)]; exact t0
    replace t1 : w17.cell? ⟨w.heap.size, 1, none⟩ = some (.int .i64 (a)) := by rw [hB.cell (p := ⟨w.heap.size, 1, none⟩) (by show w.heap.size < _; omega)]; exact t1
    replace t2 : w17.cell? ⟨w.heap.size, 2, none⟩ = some (.int .i64 (c)) := by rw [hB.cell (p := ⟨w.heap.size, 2, none⟩) (by show w.heap.size < _; omega)]; exact t2
    have hs17 := hB.size
    clear hB
    go_wp2_with fail
    refine (k_held_strs _ _ _ L.length _ o_gs (by omega) (by omega) (by omega)).mono ?_
    rintro e w18 ⟨rfl, hB⟩
    replace o_ws := ownsRow_kept_below o_ws hB
    replace o_gs := ownsRow_kept_below o_gs hB
    replace o_hs := ownsRow_kept_below o_hs hB
    replace hA := bthen hA hB
    replace t0 : w18.cell? ⟨w.heap.size, 0, none⟩ = some (.int .i64 (r)) := by rw [hB.cell (p := ⟨w.heap.size, 0, none⟩) (by show w.heap.size < _; omega)]; exact t0
    replace t1 : w18.cell? ⟨w.heap.size, 1, none⟩ = some (.int .i64 (a)) := by rw [hB.cell (p := ⟨w.heap.size, 1, none⟩) (by show w.heap.size < _; omega)]; exact t1
    replace t2 : w18.cell? ⟨w.heap.size, 2, none⟩ = some (.int .i64 (c)) := by rw [hB.cell (p := ⟨w.heap.size, 2, none⟩) (by show w.heap.size < _; omega)]; exact t2
    have hs18 := hB.size
    clear hB
    go_wp2_with fail
    go_ret
    exact ⟨rfl, hA⟩

theorem door_met_FnExactPageLines (os : Os) (args : Array Value) : laidMetH Tryd.prog Rows.fnExactPageLinesRow.laid ((World.doorLaid Tryd.prog 72 os).forCall (fun _ _ => 0) ⟨#[], args, []⟩).memory :=
  laidMetH_of_parts3 (fuel := 8) (laidMet_of_run' 8 (by kernel_rfl) (by kernel_rfl)) (by kernel_rfl) (by kernel_rfl)
set_option maxRecDepth 100000 in
theorem lifted_FnExactPageLines (os : Os) (started : os.Started) (H : Type) (enc : TypeId × Value → H) :
    ReturnsInHanded {} Tryd.checked os 4 .any (fun w args => (Rows.fnExactPageLinesSpec.pre enc Tryd.prog Tryd.f4 [] false w args ∧ laidMetH Tryd.prog Rows.fnExactPageLinesRow.laid w) ∧ sizedMet enc Tryd.prog Tryd.f4 (OpenSpec.ofChange Rows.fnExactPageLinesSpec) false w args)
      (Rows.fnExactPageLinesSpec.post enc Tryd.prog Tryd.f4 false true false false) := by
  refine returnsInHanded_of_change_and (C := Tryd.checked) (X := fun w _ => laidMetH Tryd.prog Rows.fnExactPageLinesRow.laid w) (fun _ _ _ hh h => h.of_heap hh) own started (by kernel_rfl) Tryd.func4
    (ChangeSpec.witness_shaped (enc := enc) (C := Tryd.checked) (os := os) (X := fun w _ => laidMetH Tryd.prog Rows.fnExactPageLinesRow.laid w) false (World.doorLaid Tryd.prog 72 os) #[.agg #[.int .i64 0, .int .i64 0, .int .i64 0], .slice none 0 0, .int .i64 0] 8 rfl (World.shaped_of_RefB (by kernel_rfl) (by kernel_rfl)) (by kernel_rfl) (by kernel_rfl) (by kernel_rfl) (door_met_FnExactPageLines os _)) ?_
  intro W base args ds gs before hval0 hW _ _ hL _
  have hval : ∀ (j : Nat) t v, Tryd.f4.params[j]? = some t → args[j]? = some v → Value.okWide Tryd.prog W .any base t v := hval0
  have htab : TabW W := TabW.of_laid (by kernel_rfl) hL
  have hW' := hW
  obtain ⟨p, q, hA0, hV, rfl, hfz, hnd⟩ := hW
  have hA : DataW.TrodAll enc Tryd.prog W 0 (fun _ => true) true Tryd.f4.params.toList args.toList ds p := hA0
  rw [Tryd.params4] at hA hval
  obtain ⟨v0, vs0, d0, ds0, p0, q0, hargs, rfl, rfl, h0, r0⟩ := trodAll_cons hA
  obtain ⟨v1, vs1, d1, ds1, p1, q1, rfl, rfl, rfl, h1, r1⟩ := trodAll_cons r0
  obtain ⟨v2, vs2, d2, ds2, p2, q2, rfl, rfl, rfl, h2, r2⟩ := trodAll_cons r1
  obtain ⟨rfl, rfl, rfl⟩ := trodAll_nil r2
  obtain rfl : args = #[v0, v1, v2] := by cases args; simp_all
  obtain ⟨rfl, rfl⟩ := trodVars_none hV
  obtain ⟨x0, y0, z0, rfl⟩ := open_lay (hval 0 23 v0 rfl rfl) h0
  obtain ⟨l1, w1⟩ := open_ints (hval 1 24 v1 rfl rfl) h1
  obtain ⟨a2, rfl, rfl, rfl, w2⟩ := open_int Tryd.underlying3 (hval 2 3 v2 rfl rfl) h2
  refine (walk_FnExactPageLines x0 y0 z0 v1 l1 w1 a2 w2 htab).mono fun e W' ⟨he, hg⟩ => ?_
  subst he
  exact ⟨_, rfl, law_post laidOut hW' rfl (by kernel_rfl) rfl Tryd.underlying4 rfl rfl rfl rfl hg⟩
theorem factA_FnExactPageLines : factsA Tryd.prog 4 Tryd.f4 Rows.fnExactPageLinesSpec Rows.fnExactPageLinesRow = true := by kernel_rfl
theorem fact9_FnExactPageLines : (Rows.fnExactPageLinesRow.inPlace == Tryd.prog.inPlace 4) = true := by kernel_rfl
theorem fact10_FnExactPageLines : (Rows.fnExactPageLinesRow.unfollowed == Tryd.prog.unfollowed 4) = true := by kernel_rfl
theorem fact11_FnExactPageLines : (Rows.fnExactPageLinesRow.recurses == Tryd.prog.recurses 4) = true := by kernel_rfl
theorem fact12_FnExactPageLines : (Rows.fnExactPageLinesRow.named == Tryd.prog.varsNamed 4) = true := by kernel_rfl
theorem factB_FnExactPageLines : factsB Tryd.prog 4 Tryd.f4 Rows.fnExactPageLinesSpec Rows.fnExactPageLinesRow = true := by kernel_rfl
theorem factN_FnExactPageLines : Tryd.prog.funcNamed Rows.fnExactPageLinesRow.func = some 4 := by kernel_rfl
theorem proved_FnExactPageLines : Rows.FnExactPageLinesSaid :=
  OpenClaim.holds_of_wide 4 Tryd.f4 rfl rfl rfl rfl rfl rfl rfl ⟨rfl, rfl, rfl, rfl, rfl⟩ rfl rfl rfl rfl rfl factN_FnExactPageLines Tryd.func4 (closed_of factA_FnExactPageLines fact9_FnExactPageLines fact10_FnExactPageLines fact11_FnExactPageLines fact12_FnExactPageLines factB_FnExactPageLines rfl rfl rfl)
    (of_decide_eq_true (by kernel_rfl)) (by unfold Func.isWrapper; first | (rw [if_pos (by decide +kernel)]; kernel_rfl) | (rw [if_neg (by decide +kernel)]; exact ⟨rfl, rfl⟩))
    (fun os started H enc _ => lifted_FnExactPageLines os started H enc)
theorem card_FnExactPageLines : Rows.FnExactPageLinesCardSaid :=
  Claim7.holds_tied_plain_at .later [] [.data, .data, .data] true (true, "e101157e4c9e637363a8fa74284d0f2a3bfd8b41c096af02f62d292a7d2caf41") true
    proved_FnExactPageLines (fun _ h => by cases h) (by kernel_rfl) (fun _ h => by cases h) fnExactPageLines_row_tie rfl ⟨rfl, rfl⟩ (by kernel_rfl) rfl
    (fun f fn hf hfn => by
      obtain rfl : f = 4 := Option.some.inj (factN_FnExactPageLines.symm.trans hf) |>.symm
      obtain rfl : fn = Tryd.f4 := (Option.some.inj (Tryd.func4.symm.trans hfn)).symm
      exact ⟨by kernel_rfl, fun j t ht => by
        rw [Tryd.params4] at ht
        have hm : t ∈ [23, 24, 3] := by simpa using Array.mem_of_getElem? ht
        have hall : ([23, 24, 3].all fun u => !Tryd.prog.wantsStandIn u) = true := by kernel_rfl
        exact (show Tryd.prog.wantsStandIn t = false by simpa using List.all_eq_true.1 hall t hm)⟩)
    (by kernel_rfl)
end Go.Proofs.YtmmbdkllolhfhaaDoor
