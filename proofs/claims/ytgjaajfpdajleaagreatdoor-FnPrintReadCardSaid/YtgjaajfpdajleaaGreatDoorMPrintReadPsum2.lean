/- Lemmas and contracts for PrintRead (Psum2 Box3): plain words on memory, contracts of the functions that the law reaches. No condition but what each states. -/
import Derived.Test.YtgjaajfpdajleaaGreatDoorMPrintReadPsum
import Derived.Test.YtgjaajfpdajleaaGreatDoorMPrintReadRErr
import Derived.Test.YtgjaajfpdajleaaGreatDoorMPrintReadStrs
namespace Go.Proofs.YtgjaajfpdajleaaGreatDoor
set_option linter.unusedVariables false
open Go.RowKit

def pl (r a c : Int) (xs : List Int) (p : Int) : List Int := if pgB r a c xs p = true then psL xs (p * (r * a)).toNat r.toNat a.toNat else []
/-- a row's element is set -/
theorem OwnI_setAt {w : World} {base e g cap m j : Nat} {L : List Int} (ho : w.ownsRow base e 1 (.slice (some ⟨g, 0, none⟩) m cap) m (L.map (Value.int .i64))) (hl : L.length = m) (hj : j < m) (y : Int) :
    w.cell? ⟨g, j, none⟩ = some (.int .i64 (L.getD j 0)) ∧ w.frozen? ⟨g, j, none⟩ = false ∧ (w.setCell ⟨g, j, none⟩ (.int .i64 y)).ownsRow base e 1 (.slice (some ⟨g, 0, none⟩) m cap) m ((L.set j y).map (Value.int .i64)) := by
  refine ⟨?_, ho.frozenAt j, ?_⟩
  · rw [ho.cellAt j (by omega)]
    simp [List.getD, hl, hj]
  · have := (ho.stored j (.int .i64 y)).1
    rwa [List.map_set]

set_option maxHeartbeats 400000 in
theorem c_impl_PageSums (r a c : Int) (b : Option Addr) (cap : Nat) (xs : List Int) (p : Int) (w : World) (ha : RdI w (.slice b xs.length cap) xs) (hx : xs.length ≤ 1099511627776) (hcap : xs.length ≤ cap) (hcap2 : cap ≤ 9223372036854775807) :
    Calls Tryz.prog 24 #[(.agg #[.int .i64 r, .int .i64 a, .int .i64 c]), .slice b xs.length cap, (.int .i64 (p))] w (FreshI w (pl r a c xs p)) := by
  by_cases hv : pgB r a c xs p = true
  · have E : Hid (pl r a c xs p = psL xs (p * (r * a)).toNat r.toNat a.toNat) := if_pos hv
    obtain ⟨hl, ht, p0, p1⟩ := pgB_iff hv
    obtain ⟨t1, t2, t3⟩ := tabB_iff ht
    have T3 : Hid (allIn xs 1000000000 = true) := t3
    obtain ⟨l1, l2, l3, l4, l5, l6, l7, l8⟩ := lay_mul hl
    have q0 : 0 ≤ p * (r * a) := Int.mul_nonneg p0 (by omega)
    obtain ⟨s, hs⟩ : ∃ s : Nat, (p * (r * a)).toNat = s := ⟨_, rfl⟩
    have hs2 : s < xs.length := by omega
    have HV : Hid (pgB r a c xs p = true) := hv
    obtain ⟨R, rfl⟩ : ∃ R : Nat, r = R := ⟨r.toNat, by omega⟩
    obtain ⟨A, rfl⟩ : ∃ A : Nat, a = A := ⟨a.toNat, by omega⟩
    rw [hs] at E
    rw [Int.toNat_natCast, Int.toNat_natCast] at E
    obtain ⟨M, hM⟩ : ∃ M : Nat, R * A = M := ⟨_, rfl⟩
    have HM : Hid (R * A = M) := hM
    have hM2 : ((R : Int) * (A : Int)).toNat = M := by rw [← hM]; rw [← Int.natCast_mul, Int.toNat_natCast]
    have HS : Hid ((p * ((R : Int) * (A : Int))).toNat = s ∧ ((R : Int) * (A : Int)).toNat = M) := ⟨hs, hM2⟩
    have m1 : 1 ≤ M := by omega
    clear hv ht t3 q0 p1 l7 l8 hs hM hM2
    go_enter Tryz.func24, Tryz.ntmps24
    go_wp2_with fail
    refine (c_pageExists _ _ _ _ xs _ _ (ha.kept ((Below.refl _ _).alloc (Nat.le_refl _) _)) hx).mono ?_
    rw [HV.out]
    rintro e w1 ⟨rfl, hB1⟩
    obtain ⟨_, k0, k1, k2⟩ := keep3_0 hB1
    replace k0 : w1.cell? ⟨w.heap.size, 0, none⟩ = some (.int .i64 ((R : Int))) := k0
    replace k1 : w1.cell? ⟨w.heap.size, 1, none⟩ = some (.int .i64 ((A : Int))) := k1
    replace k2 : w1.cell? ⟨w.heap.size, 2, none⟩ = some (.int .i64 (c)) := k2
    have hA := balloc hB1
    have hz1 : w.heap.size < w1.heap.size := by have := hB1.size; simp at this; omega
    clear hB1
    go_wp2_with (first | (at_make; refine mkfull 24 3 Tryz.underlying24 infoInt rfl (by decide) rfl _ _ rfl A rfl rfl rfl rfl (by omega) ?_; intro w2 ho2 hB2 hz2; have hc2 := (bcell hB2).1; have k0' : w2.cell? ⟨w.heap.size, 0, none⟩ = some (.int .i64 ((R : Int))) := (by rw [hc2 _ _ hz1]; exact k0); have k1' : w2.cell? ⟨w.heap.size, 1, none⟩ = some (.int .i64 ((A : Int))) := (by rw [hc2 _ _ hz1]; exact k1); have k2' : w2.cell? ⟨w.heap.size, 2, none⟩ = some (.int .i64 (c)) := (by rw [hc2 _ _ hz1]; exact k2); clear hc2))
    refine (c_entriesOfPage _ _ _ _ cap xs _ w _ ha hcap hcap2 HV.out).mono ?_
    rw [HS.out.1, HS.out.2]
    rintro e w3 ⟨⟨v3, rfl, hr3⟩, hB3⟩
    have ho3 := ownsRow_kept_below ho2 hB3
    have hB23 : Below w1.heap.size w1 w3 := bthen hB2 hB3
    have hz3 : w1.heap.size < w3.heap.size := by have := hB3.size; omega
    clear k0' k1' k2' ho2 hB2 hB3 ha
    obtain ⟨Y, hY⟩ : ∃ Y, pgE xs s M = Y := ⟨_, rfl⟩
    have hYl : Y.length = min M (xs.length - s) := by rw [← hY]; simp [pgE]
    have hYg : ∀ k, k < Y.length → Y.getD k 0 = xs.getD (s + k) 0 := by
      intro k hk
      rw [hYl] at hk
      rw [← hY]
      unfold pgE
      have h1 : k < M := by omega
      have h2 : s + k < xs.length := by omega
      simp [List.getD, h1, h2]
    rw [hY] at hr3
    clear hY
    have HY : Hid ((Y.length = M ∨ Y.length = xs.length - s) ∧ Y.length ≤ M ∧ ∀ k, k < Y.length → Y.getD k 0 = xs.getD (s + k) 0) := ⟨by omega, by omega, hYg⟩
    have hY60 : Y.length ≤ 60 := by omega
    clear hYl hYg
    have hr4 := hr3
    obtain ⟨b3, cap3, rfl, hr5⟩ := hr4
    clear hr5
    simp only [List.length_map] at hr3 ⊢
    rw [show List.replicate A (.int .i64 (0)) = (psR xs s R A 0).map (Value.int .i64) from by rw [psR_zero]; simp] at ho3
    go_wp2
    go_loopw [23] (fun i wr => ∃ k : Nat, k ≤ Y.length ∧ i = .int .i64 k ∧ wr.ownsRow w1.heap.size 3 1 (.slice (some ⟨w1.heap.size, 0, none⟩) A A) A ((psR xs s R A k).map (Value.int .i64)) ∧ Below w1.heap.size w1 wr) (fun i _ => Y.length - (intOf i).toNat)
    case atStart => exact ⟨0, by omega, rfl, ho3, hB23⟩
    case round =>
      obtain ⟨k, hk, rfl, ho, hB⟩ := hrel
      by_cases hlt : k < Y.length
      · obtain ⟨b1, o1, rfl, hb1, e1⟩ := RdI_cell hr3 (bthen hA hB) hlt
        have hc0 : wr.cell? ⟨w.heap.size, 0, none⟩ = some (.int .i64 ((R : Int))) := by rw [(bcell hB).1 _ _ hz1]; exact k0
        have hkM : k < R * A := by rw [HM.out]; have := HY.out.2.1; omega
        obtain ⟨j1, j2⟩ := psR_at (xs := xs) (s := s) (show 0 < R by omega) hkM
        have j3 := psR_set (xs := xs) (s := s) (show 0 < R by omega) hkM
        rw [HY.out.2.2 k hlt] at e1
        obtain ⟨x, hx1⟩ : ∃ x, xs.getD (s + k) 0 = x := ⟨_, rfl⟩
        have hxb := getD_bd T3.out (s + k)
        have hyb := csum_bd T3.out (s + k / R * R) (k % R)
        have hkR : k % R < R := Nat.mod_lt _ (by omega)
        rw [hx1] at e1 j3 hxb
        obtain ⟨y, hy1⟩ : ∃ y, csum xs (s + k / R * R) (k % R) = y := ⟨_, rfl⟩
        rw [hy1] at j2 j3 hyb
        obtain ⟨q1, q2, q3⟩ := OwnI_setAt ho (psR_len xs s R A k) j1 (y + x)
        rw [j2] at q1
        rw [j3] at q3
        have hq := hB.setCell (p := ⟨w1.heap.size, k / R, none⟩) (Nat.le_refl _) (.int .i64 (y + x))
        have HO : Hid (_ ∧ _) := ⟨q3, hq⟩
        have hdiv : (k : Int) / (R : Int) = ((k / R : Nat) : Int) := by simp
        have hr0 : ((R : Int) = 0) = False := eq_false (by omega)
        obtain ⟨j, hj⟩ : ∃ j, k / R = j := ⟨_, rfl⟩
        rw [hj] at q1 q2 q3 hq HO hdiv j1
        clear hx1 hy1 q3 hq j2 j3 ho hB hr3 hj k0 k1 k2
        have x1 : -1000000000 ≤ x := hxb.1
        have x2 : x ≤ 1000000000 := hxb.2
        have y1 : -20000000000 ≤ y := by omega
        have y2 : y ≤ 20000000000 := by omega
        clear hxb hyb
        go_wp2
        go_roundw
        case rel => exact ⟨k + 1, by omega, by go_num, HO.out.1, HO.out.2⟩
        case measure => simp [intOf]; omega
      · have HO : Hid (OwnI wr w.heap.size (.slice (some ⟨w1.heap.size, 0, none⟩) A A) (pl R A c xs p) ∧ Below w.heap.size w wr) := by
          have : k = Y.length := by omega
          subst this
          rw [psR_end (by rw [HM.out]; exact HY.out.1)] at ho
          refine ⟨?_, bthen hA hB⟩
          rw [E.out]
          have h := ownsRow_mono ho hA.size
          unfold OwnI
          simpa [psL] using h
        clear ho hB hr3
        go_wp2
        go_ret
        exact ⟨_, rfl, HO.out.1, HO.out.2⟩
  · have E : Hid (pl r a c xs p = []) := if_neg hv
    replace hv : pgB r a c xs p = false := by simpa using hv
    go_enter Tryz.func24, Tryz.ntmps24
    go_wp2_with fail
    refine (c_pageExists _ _ _ _ xs _ _ (ha.kept ((Below.refl _ _).alloc (Nat.le_refl _) _)) hx).mono ?_
    rw [hv]
    rintro e w1 ⟨rfl, hB1⟩
    go_wp2
    go_ret
    exact ⟨_, rfl, by rw [E.out]; exact World.ownsRow_nil _ _ _ _, balloc hB1⟩

theorem own_cap {w : World} {base : Nat} {v : Value} {xs : List Int} (h : OwnI w base v xs) : ∃ b cap, v = .slice b xs.length cap ∧ xs.length ≤ cap ∧ cap ≤ 9223372036854775807 := by
  obtain ⟨h1, h2⟩ := h
  rcases h2 with ⟨rfl, e⟩ | ⟨g, cap, cur, rfl, hg, hh, h3, h4, r⟩
  · exact ⟨none, 0, by rw [e], by omega, by omega⟩
  · exact ⟨_, cap, rfl, h3, by simp only [maxLen] at h4; omega⟩
theorem k_impl_PageSums (r a c : Int) (v : Value) (xs : List Int) (p : Int) (w : World) {base : Nat} (ho : OwnI w base v xs) (hx : xs.length ≤ 1099511627776) :
    Calls Tryz.prog 24 #[(.agg #[.int .i64 r, .int .i64 a, .int .i64 c]), v, (.int .i64 (p))] w (FreshI w (pl r a c xs p)) := by
  have hr := owns_RdI ho
  obtain ⟨b, cap, rfl, h1, h2⟩ := own_cap ho
  exact c_impl_PageSums r a c b cap xs p w hr hx h1 h2
theorem pl_len (r a c : Int) (xs : List Int) (p : Int) : (pl r a c xs p).length ≤ 60 := by
  unfold pl; split
  · rename_i h
    obtain ⟨l1, l2, l3, l4, _⟩ := lay_mul (pgB_iff h).1
    simp [psL]; omega
  · simp
theorem psL_len (xs : List Int) (s r a : Nat) : (psL xs s r a).length = a := by simp [psL]
theorem psL_succ (xs : List Int) (s r i : Nat) : psL xs s r (i + 1) = psL xs s r i ++ [csum xs (s + i * r) r] := by
  unfold psL; rw [List.range_succ, List.map_append]; rfl
end Go.Proofs.YtgjaajfpdajleaaGreatDoor

namespace Go.Proofs.YtgjaajfpdajleaaGreatDoor
set_option linter.unusedVariables false
open Go.RowKit

/-- the box of three numbers at block b -/
def Box3 (b : Nat) (x y z : Int) (w : World) : Prop := w.cell? ⟨b, 0, none⟩ = some (.int .i64 (x)) ∧ w.cell? ⟨b, 1, none⟩ = some (.int .i64 (y)) ∧ w.cell? ⟨b, 2, none⟩ = some (.int .i64 (z)) ∧ b < w.heap.size
theorem Box3.kept {b : Nat} {x y z : Int} {w w' : World} (h : Box3 b x y z w) (hB : Below w.heap.size w w') : Box3 b x y z w' := by
  obtain ⟨h0, h1, h2, h3⟩ := h
  exact ⟨by rw [(bcell hB).1 _ _ h3]; exact h0, by rw [(bcell hB).1 _ _ h3]; exact h1, by rw [(bcell hB).1 _ _ h3]; exact h2, by have := hB.size; omega⟩
theorem Box3.new (w : World) (x y z : Int) (t : TypeId) : Box3 w.heap.size x y z (w.alloc (.cells #[(.int .i64 (x)), (.int .i64 (y)), (.int .i64 (z))] t)) := by
  refine ⟨?_, ?_, ?_, by simp⟩ <;> simp [go_sem]
theorem OwnI_form3 {w : World} {base : Nat} {v : Value} {xs : List Int} (h : OwnI w base v xs) : ∃ a c, v = .slice a xs.length c := by
  obtain ⟨a, cap, rfl, _⟩ := owns_RdI h
  exact ⟨a, cap, by rw [List.length_map]⟩
theorem OwnS_form3 {w : World} {base : Nat} {v : Value} {xs : List ByteArray} (h : OwnS w base v xs) : ∃ a c, v = .slice a xs.length c := by
  obtain ⟨a, cap, rfl, _⟩ := owns_RdS h
  exact ⟨a, cap, by rw [List.length_map]⟩
end Go.Proofs.YtgjaajfpdajleaaGreatDoor
