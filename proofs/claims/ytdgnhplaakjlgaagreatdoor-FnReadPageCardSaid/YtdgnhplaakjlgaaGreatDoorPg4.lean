/- Contracts: the lines of a page, program and reference. -/
import Derived.Test.YtdgnhplaakjlgaaGreatDoorPg3
import Derived.Test.YtdgnhplaakjlgaaGreatDoorItoa
namespace Go.Proofs.YtdgnhplaakjlgaaGreatDoor
set_option linter.unusedVariables false
open Go.RowKit

set_option maxRecDepth 20000 in
set_option maxHeartbeats 1600000 in
theorem c_spec_PageLines (r a c : Int) (v : Value) (xs : List Int) (p : Int) (w : World) (ha : RdI w v xs) (hx : xs.length ≤ 1099511627776) :
    Calls Tryz.prog 22 #[(.agg #[.int .i64 r, .int .i64 a, .int .i64 c]), v, (.int .i64 (p))] w (FreshSB w (plinS r a c xs p) (plinB r a c xs p)) := by
  have ha0 := ha
  obtain ⟨b, cap, rfl, ha1⟩ := ha0
  clear ha1
  simp only [List.length_map] at ha ⊢
  by_cases hv : pgB r a c xs p = true
  · have E : plinS r a c xs p = pgeF xs c.toNat (p * (r * a)).toNat r.toNat a.toNat ∧ plinB r a c xs p = pgeB xs c.toNat (p * (r * a)).toNat r.toNat a.toNat := ⟨if_pos hv, by unfold plinB; rw [hv]; rfl⟩
    rw [E.1, E.2]
    clear E
    obtain ⟨hl, ht, p0, p1⟩ := pgB_iff hv
    obtain ⟨t1, t2, t3⟩ := tabB_iff ht
    obtain ⟨l1, l2, l3, l4, l5, l6, l7, l8⟩ := lay_mul hl
    have q0 : 0 ≤ p * (r * a) := Int.mul_nonneg p0 (by omega)
    obtain ⟨s, hs⟩ : ∃ s : Nat, (p * (r * a)).toNat = s := ⟨_, rfl⟩
    have hs2 : s < xs.length := by omega
    obtain ⟨R, rfl⟩ : ∃ R : Nat, r = R := ⟨r.toNat, by omega⟩
    obtain ⟨A, rfl⟩ : ∃ A : Nat, a = A := ⟨a.toNat, by omega⟩
    obtain ⟨C, rfl⟩ : ∃ C : Nat, c = C := ⟨c.toNat, by omega⟩
    rw [hs, Int.toNat_natCast, Int.toNat_natCast, Int.toNat_natCast]
    have m0 : 0 ≤ p * (R : Int) := Int.mul_nonneg p0 (by omega)
    have m1 : p * (R : Int) * (A : Int) = (s : Int) := by rw [Int.mul_assoc]; omega
    have m2 : p * (R : Int) * 1 ≤ p * (R : Int) * (A : Int) := Int.mul_le_mul (Int.le_refl _) l3 (by omega) m0
    have m3 : p * (R : Int) ≤ 60 := by omega
    have hin : inB p 0 (pnF R A C xs.length - 1) = true := by
      have h := hv
      unfold pgB at h
      rw [Bool.and_eq_true, Bool.and_eq_true] at h
      exact h.2.2
    have hpn : -1 ≤ pnF R A C xs.length ∧ pnF R A C xs.length ≤ 100 := by
      have e : pnF R A C xs.length = ((xs.length : Int) + (R : Int) * A - 1) / ((R : Int) * A) := if_pos ⟨hl, by omega, by omega⟩
      have h1 := Int.ediv_nonneg (show (0 : Int) ≤ (xs.length : Int) + (R : Int) * A - 1 by omega) (show (0 : Int) ≤ (R : Int) * A by omega)
      have h2 : ((xs.length : Int) + (R : Int) * A - 1) / ((R : Int) * A) < 61 := Int.ediv_lt_of_lt_mul (by omega) (by omega)
      omega
    have HC : Hid (∀ W, Below w.heap.size w W → Calls Tryz.prog 56 #[(.agg #[.int .i64 (R : Int), .int .i64 (A : Int), .int .i64 (C : Int)]), .slice b xs.length cap, (.int .i64 (p))] W (FreshSB W (pgeF xs C s R A) (pgeB xs C s R A))) :=
      fun W hB => c_l6Page R A C p s _ xs W (ha.kept hB) t2 t3 hl p0 (by omega) m1 (by omega)
    generalize pgeF xs C s R A = F at HC ⊢
    generalize pgeB xs C s R A = B at HC ⊢
    obtain ⟨pn, hp⟩ : ∃ pn, pnF R A C xs.length = pn := ⟨_, rfl⟩
    have HP : Hid (pnF R A C xs.length = pn) := hp
    rw [hp] at hin hpn
    obtain ⟨n1, n2⟩ := hpn
    clear hv t3 q0 p1 l7 l8 hs hp m0 m1 m2 m3
    go_enter Tryz.func22, Tryz.ntmps22
    go_wp2_with fail
    refine (c_spec_LayoutValid _ _ _ _).mono ?_
    rw [hl]
    rintro e w1 ⟨rfl, hB1⟩
    have hA1 : Below w.heap.size w w1 := balloc hB1
    have hz1 : w.heap.size < w1.heap.size := by have := hB1.size; simp at this; omega
    have k0 : w1.cell? ⟨w.heap.size, 0, none⟩ = some (.int .i64 ((R : Int))) := by rw [(bcell hB1).1 _ _ (by simp)]; simp [go_sem]
    have k1 : w1.cell? ⟨w.heap.size, 1, none⟩ = some (.int .i64 ((A : Int))) := by rw [(bcell hB1).1 _ _ (by simp)]; simp [go_sem]
    have k2 : w1.cell? ⟨w.heap.size, 2, none⟩ = some (.int .i64 ((C : Int))) := by rw [(bcell hB1).1 _ _ (by simp)]; simp [go_sem]
    clear hB1
    go_wp2_with fail
    refine (c_spec_TableValid _ xs _ (ha.kept hA1) hx).mono ?_
    rw [ht]
    rintro e w2 ⟨rfl, hB2⟩
    have hz2 : w.heap.size < w2.heap.size := by have := hB2.size; omega
    have kc := (bcell hB2).1
    have k0' : w2.cell? ⟨w.heap.size, 0, none⟩ = some (.int .i64 ((R : Int))) := by rw [kc _ _ hz1]; exact k0
    have k1' : w2.cell? ⟨w.heap.size, 1, none⟩ = some (.int .i64 ((A : Int))) := by rw [kc _ _ hz1]; exact k1
    have k2' : w2.cell? ⟨w.heap.size, 2, none⟩ = some (.int .i64 ((C : Int))) := by rw [kc _ _ hz1]; exact k2
    have hA2 := bthen hA1 hB2
    clear k0 k1 k2 kc hB2 hA1
    go_wp2_with fail
    refine (c_spec_PagesNeeded _ _ _ _ _).mono ?_
    rw [HP.out]
    rintro e w3 ⟨rfl, hB3⟩
    have kc := (bcell hB3).1
    have k0 : w3.cell? ⟨w.heap.size, 0, none⟩ = some (.int .i64 ((R : Int))) := by rw [kc _ _ hz2]; exact k0'
    have k1 : w3.cell? ⟨w.heap.size, 1, none⟩ = some (.int .i64 ((A : Int))) := by rw [kc _ _ hz2]; exact k1'
    have k2 : w3.cell? ⟨w.heap.size, 2, none⟩ = some (.int .i64 ((C : Int))) := by rw [kc _ _ hz2]; exact k2'
    have hA3 := bthen hA2 hB3
    clear k0' k1' k2' kc hB3 hA2
    go_wp2_with (go_at_call 29; refine (c_l1In _ _ _ _).mono ?_; rintro e w' ⟨rfl, rfl⟩)
    refine (HC.out _ hA3).mono ?_
    rintro e w4 ⟨u, rfl, ho, hB4⟩
    have HO : Hid (OwnS w4 w.heap.size u F ∧ Below w.heap.size w w4) := ⟨ownsRow_monoS ho hA3.size, bthen hA3 hB4⟩
    clear ho hB4 hA3 k0 k1 k2
    go_wp2
    go_ret2
    exact ⟨_, rfl, HO.out.1, HO.out.2⟩
  · have E : Hid (plinS r a c xs p = [] ∧ plinB r a c xs p = false) := by
      replace hv : pgB r a c xs p = false := by simpa using hv
      exact ⟨by unfold plinS; rw [hv]; rfl, by unfold plinB; rw [hv]; rfl⟩
    rw [E.out.1, E.out.2]
    replace hv : pgB r a c xs p = false := by simpa using hv
    cases hl : layB r a c
    · go_enter Tryz.func22, Tryz.ntmps22
      go_wp2_with fail
      refine (c_spec_LayoutValid _ _ _ _).mono ?_
      rw [hl]
      rintro e w1 ⟨rfl, hB1⟩
      have hA := balloc hB1
      clear hB1
      go_wp2
      go_ret2
      exact ⟨_, rfl, OwnS_made _ _ hA.size, hA.alloc hA.size _⟩
    · cases ht : tabB xs
      · go_enter Tryz.func22, Tryz.ntmps22
        go_wp2_with fail
        refine (c_spec_LayoutValid _ _ _ _).mono ?_
        rw [hl]
        rintro e w1 ⟨rfl, hB1⟩
        have hA1 : Below w.heap.size w w1 := balloc hB1
        clear hB1
        go_wp2_with fail
        refine (c_spec_TableValid _ xs _ (ha.kept hA1) hx).mono ?_
        rw [ht]
        rintro e w2 ⟨rfl, hB2⟩
        have hA := bthen hA1 hB2
        clear hB2 hA1
        go_wp2
        go_ret2
        exact ⟨_, rfl, OwnS_made _ _ hA.size, hA.alloc hA.size _⟩
      · have hin : inB p 0 (pnF r a c xs.length - 1) = false := by
          unfold pgB at hv
          rw [hl, ht] at hv
          simpa using hv
        obtain ⟨t1, t2, t3⟩ := tabB_iff ht
        obtain ⟨l1, l2, l3, l4, l5, l6, l7, l8⟩ := lay_mul hl
        have hpn : -1 ≤ pnF r a c xs.length ∧ pnF r a c xs.length ≤ 100 := by
          have e : pnF r a c xs.length = ((xs.length : Int) + r * a - 1) / (r * a) := if_pos ⟨hl, by omega, by omega⟩
          have h1 := Int.ediv_nonneg (show (0 : Int) ≤ (xs.length : Int) + r * a - 1 by omega) (show (0 : Int) ≤ r * a by omega)
          have h2 : ((xs.length : Int) + r * a - 1) / (r * a) < 61 := Int.ediv_lt_of_lt_mul (by omega) (by omega)
          omega
        obtain ⟨pn, hp⟩ : ∃ pn, pnF r a c xs.length = pn := ⟨_, rfl⟩
        have HP : Hid (pnF r a c xs.length = pn) := hp
        rw [hp] at hin hpn
        obtain ⟨n1, n2⟩ := hpn
        clear hp l7 l8 t3 E hv
        go_enter Tryz.func22, Tryz.ntmps22
        go_wp2_with fail
        refine (c_spec_LayoutValid _ _ _ _).mono ?_
        rw [hl]
        rintro e w1 ⟨rfl, hB1⟩
        have hA1 : Below w.heap.size w w1 := balloc hB1
        have hz1 : w.heap.size < w1.heap.size := by have := hB1.size; simp at this; omega
        have k0 : w1.cell? ⟨w.heap.size, 0, none⟩ = some (.int .i64 (r)) := by rw [(bcell hB1).1 _ _ (by simp)]; simp [go_sem]
        have k1 : w1.cell? ⟨w.heap.size, 1, none⟩ = some (.int .i64 (a)) := by rw [(bcell hB1).1 _ _ (by simp)]; simp [go_sem]
        have k2 : w1.cell? ⟨w.heap.size, 2, none⟩ = some (.int .i64 (c)) := by rw [(bcell hB1).1 _ _ (by simp)]; simp [go_sem]
        clear hB1
        go_wp2_with fail
        refine (c_spec_TableValid _ xs _ (ha.kept hA1) hx).mono ?_
        rw [ht]
        rintro e w2 ⟨rfl, hB2⟩
        have hz2 : w.heap.size < w2.heap.size := by have := hB2.size; omega
        have kc := (bcell hB2).1
        have k0' : w2.cell? ⟨w.heap.size, 0, none⟩ = some (.int .i64 (r)) := by rw [kc _ _ hz1]; exact k0
        have k1' : w2.cell? ⟨w.heap.size, 1, none⟩ = some (.int .i64 (a)) := by rw [kc _ _ hz1]; exact k1
        have k2' : w2.cell? ⟨w.heap.size, 2, none⟩ = some (.int .i64 (c)) := by rw [kc _ _ hz1]; exact k2
        have hA2 := bthen hA1 hB2
        clear k0 k1 k2 kc hB2 hA1
        go_wp2_with fail
        refine (c_spec_PagesNeeded _ _ _ _ _).mono ?_
        rw [HP.out]
        rintro e w3 ⟨rfl, hB3⟩
        have hA := bthen hA2 hB3
        clear k0' k1' k2' hB3 hA2
        go_wp2_with (go_at_call 29; refine (c_l1In _ _ _ _).mono ?_; rintro e w' ⟨rfl, rfl⟩)
        go_ret2
        exact ⟨_, rfl, OwnS_made _ _ hA.size, hA.alloc hA.size _⟩
end Go.Proofs.YtdgnhplaakjlgaaGreatDoor
