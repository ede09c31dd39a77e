/- Contracts: a line of a page, in the reference. -/
import Derived.Test.YtdgnhplaakjlgaaGreatDoorPg2P
import Derived.Test.YtdgnhplaakjlgaaGreatDoorSapp
namespace Go.Proofs.YtdgnhplaakjlgaaGreatDoor
set_option linter.unusedVariables false
open Go.RowKit

theorem keepTwo {w1 wa wb : World} {b o b' o' : Nat} {v0 v1 : Value} (hb : b < w1.heap.size) (hb' : b' < w1.heap.size) (h : Below w1.heap.size w1 wa ∧ wa.cell? ⟨b, o, none⟩ = some v0 ∧ wa.cell? ⟨b', o', none⟩ = some v1) (k : Below wa.heap.size wa wb) :
    Below w1.heap.size w1 wb ∧ wb.cell? ⟨b, o, none⟩ = some v0 ∧ wb.cell? ⟨b', o', none⟩ = some v1 := by
  obtain ⟨h0, h1, h2⟩ := h
  have hs := h0.size
  obtain ⟨hc, _⟩ := bcell k
  exact ⟨bthen h0 k, by rw [hc _ _ (by omega)]; exact h1, by rw [hc _ _ (by omega)]; exact h2⟩

set_option maxRecDepth 20000 in
set_option maxHeartbeats 1600000 in
theorem c_l6Line (R A C : Nat) (p : Int) (q s : Nat) (v : Value) (xs : List Int) (w : World) (ha : RdI w v xs) (hx : xs.length ≤ 60) (hin : allIn xs 1000000000 = true) (hl : layB R A C = true) (p0 : 0 ≤ p) (p1 : p * (R : Int) ≤ 100) (hs : p * (R : Int) * (A : Int) = (s : Int)) (hs1 : s ≤ 100) (hq : q < R) :
    Calls Tryz.prog 77 #[(.agg #[.int .i64 (R : Int), .int .i64 (A : Int), .int .i64 (C : Int)]), v, (.int .i64 (p)), (.int .i64 ((q : Int)))] w (StrBB (if lnB xs C (s + q) R A = true then lnL xs C (s + q) R A else []) (lnB xs C (s + q) R A) w) := by
  have ha0 := ha
  obtain ⟨b, cap, rfl, ha1⟩ := ha0
  clear ha1
  simp only [List.length_map] at ha ⊢
  obtain ⟨l1, l2, l3, l4, l5, l6, l7, l8⟩ := lay_mul hl
  have HIN : Hid (allIn xs 1000000000 = true) := hin
  obtain ⟨B, hb⟩ : ∃ B, lnB xs C (s + q) R A = B := ⟨_, rfl⟩
  obtain ⟨F, hf⟩ : ∃ F, (if B = true then lnL xs C (s + q) R A else []) = F := ⟨_, rfl⟩
  obtain ⟨n, hn⟩ : ∃ n, nCol xs.length (s + q) R A = n := ⟨_, rfl⟩
  have hnA : n ≤ A := by rw [← hn]; exact nCol_le _ _ _ _
  have HE : Hid (lnB xs C (s + q) R A = B ∧ (if B = true then lnL xs C (s + q) R A else []) = F ∧ nCol xs.length (s + q) R A = n) := ⟨hb, hf, hn⟩
  rw [hb, hf]
  have m0 : 0 ≤ p * (R : Int) := Int.mul_nonneg p0 (by omega)
  clear hb hf hn hin hl l7 l8
  go_enter Tryz.func77, Tryz.ntmps77
  go_wp2
  go_loopw [10, 11] (fun o i wr => ∃ (k : Nat) (O : ByteArray), k ≤ n ∧ i = .int .i64 k ∧ o = .string O ∧ O.size ≤ k * 13 ∧ IsS O (cellJ xs C (s + q) R k) ∧ cellB xs C (s + q) R k = true ∧ Below (w.heap.size + 1) (w.alloc (.cells #[(.int .i64 ((R : Int))), (.int .i64 ((A : Int))), (.int .i64 ((C : Int)))] 24)) wr) (fun _ i _ => A - (intOf i).toNat)
  case atStart => exact ⟨0, ⟨#[]⟩, by omega, rfl, rfl, by show 0 ≤ _; omega, rfl, rfl, Below.refl _ _⟩
  case round =>
    obtain ⟨k, O, hk, rfl, rfl, hOs, hO, hOk, hB⟩ := hrel
    have HO : Hid (IsS O (cellJ xs C (s + q) R k) ∧ cellB xs C (s + q) R k = true) := ⟨hO, hOk⟩
    clear hO hOk
    have hBA : Below w.heap.size w wr := ((Below.refl _ _).alloc (Nat.le_refl _) _).trans (hB.mono (by omega))
    have c0 : wr.cell? ⟨w.heap.size, 0, none⟩ = some (.int .i64 ((R : Int))) := by rw [hB.cell (p := ⟨w.heap.size, 0, none⟩) (Nat.lt_succ_self _)]; simp [go_sem]
    have c1 : wr.cell? ⟨w.heap.size, 1, none⟩ = some (.int .i64 ((A : Int))) := by rw [hB.cell (p := ⟨w.heap.size, 1, none⟩) (Nat.lt_succ_self _)]; simp [go_sem]
    have c2 : wr.cell? ⟨w.heap.size, 2, none⟩ = some (.int .i64 ((C : Int))) := by rw [hB.cell (p := ⟨w.heap.size, 2, none⟩) (Nat.lt_succ_self _)]; simp [go_sem]
    have hzr : w.heap.size < wr.heap.size := by have := hB.size; simp at this; omega
    by_cases hlt : k < A
    · obtain ⟨z, hz⟩ : ∃ z : Nat, k * R = z := ⟨_, rfl⟩
      have hz1 : (k : Int) * (R : Int) = (z : Int) := by rw [← hz]; simp
      have hz2 : z ≤ 6 * 20 := by rw [← hz]; exact Nat.mul_le_mul (by omega) (by omega)
      have HZ : Hid (k * R = z) := hz
      clear hz
      by_cases hlen : s + z + q < xs.length
      · have hkn : k < n := by rw [← HE.out.2.2]; exact nCol_lt hlt (by rw [HZ.out]; omega)
        obtain ⟨b1, o1, rfl, hb1, e1⟩ := RdI_cell ha hBA hlen
        have hxb := getD_bd HIN.out (s + z + q)
        obtain ⟨x, hx1⟩ : ∃ x, xs.getD (s + z + q) 0 = x := ⟨_, rfl⟩
        rw [hx1] at e1 hxb
        obtain ⟨x1, x2⟩ := hxb
        have HX : Hid (xs.getD (s + q + k * R) 0 = x) := by show _ = _; rw [HZ.out, show s + q + z = s + z + q by omega]; exact hx1
        clear hx1
        have i1 : (0 : Int) ≤ (s : Int) + (z : Int) + (q : Int) := by omega
        have i2 : (s : Int) + (z : Int) + (q : Int) < (xs.length : Int) := by omega
        have hix : ((s : Int) + (z : Int) + (q : Int)).toNat = s + z + q := by omega
        have hb2 : b1 < wr.heap.size := by have := hBA.size; omega
        have hk0 : Below wr.heap.size wr wr.drew ∧ wr.drew.cell? ⟨b1, o1 + (s + z + q), none⟩ = some (.int .i64 (x)) ∧ wr.drew.cell? ⟨w.heap.size, 2, none⟩ = some (.int .i64 ((C : Int))) := ⟨(Below.refl _ _).drew, e1, c2⟩
        have hlx := itoa_len (n := x) (by omega) (by omega)
        cases he : entB x C
        · have hc : ∀ W, Calls Tryz.prog 90 #[(.int .i64 (x)), (.int .i64 ((C : Int)))] W (StrBB [] false W) := by
            intro W
            have h := c_l6Entry x C W (by omega) (by omega) (by omega) (by omega)
            rw [he] at h
            exact h
          have HB : Hid (B = false ∧ F = []) := by
            have h1 : B = false := by
              rw [← HE.out.1]
              unfold lnB
              refine cellB_false (i := k) ?_ (by rw [HE.out.2.2]; exact hkn)
              unfold entK
              rw [HX.out]
              exact he
            exact ⟨h1, by rw [← HE.out.2.1, h1]; rfl⟩
          clear he hlx
          go_wp2
          go_region_held3 (fun wx => Below wr.heap.size wr wx ∧ wx.cell? ⟨b1, o1 + (s + z + q), none⟩ = some (.int .i64 (x)) ∧ wx.cell? ⟨w.heap.size, 2, none⟩ = some (.int .i64 ((C : Int)))) (first | assumption | exact hk0 | exact keepTwo hb2 hzr (by assumption) (by assumption))
            (first | (go_at_call 90; refine (hc _).mono ?_; rintro e w2 ⟨Y, rfl, hY, hb3⟩))
          rename_i hS
          clear hix
          have hF := bthen hBA hS.1
          go_wp2
          go_ret2
          exact ⟨_, by rw [HB.out.1]; rfl, by rw [HB.out.2]; rfl, hF⟩
        · have hc : ∀ W, Calls Tryz.prog 90 #[(.int .i64 (x)), (.int .i64 ((C : Int)))] W (StrBB (entL x C) true W) := by
            intro W
            have h := c_l6Entry x C W (by omega) (by omega) (by omega) (by omega)
            rw [he] at h
            exact h
          have heL := entL_len he
          have HC : Hid (cellB xs C (s + q) R (k + 1) = true) := by
            show _ = _
            rw [cellB_succ, HO.out.2]
            unfold entK
            rw [HX.out]
            exact he
          have HT : Hid (entT xs C (s + q + k * R) = entL x C) := by show _ = _; unfold entT; rw [HX.out]
          clear he hlx
          go_wp2
          go_region_held3 (fun wx => Below wr.heap.size wr wx ∧ wx.cell? ⟨b1, o1 + (s + z + q), none⟩ = some (.int .i64 (x)) ∧ wx.cell? ⟨w.heap.size, 2, none⟩ = some (.int .i64 ((C : Int)))) (first | assumption | exact hk0 | exact keepTwo hb2 hzr (by assumption) (by assumption))
            (first | (go_at_call 90; refine (hc _).mono ?_; rintro e w2 ⟨Y, rfl, hY, hb3⟩))
          rename_i hS
          clear hix
          have hYs := hY.size
          rw [heL] at hYs
          have hYl : Y.size ≤ 12 := by omega
          have HF : Hid (Below (w.heap.size + 1) (w.alloc (.cells #[(.int .i64 ((R : Int))), (.int .i64 ((A : Int))), (.int .i64 ((C : Int)))] 24)) w2 ∧ IsS Y (entL x C)) := ⟨hB.trans (hS.1.mono (by omega)), hY⟩
          clear hS hY hYs hb3 hk0 e1 heL hc hB hBA c0 c1 c2
          by_cases h0 : 0 < k
          · have g1 : (0 : Int) < (k : Int) := by omega
            have HJ : Hid (cellJ xs C (s + q) R (k + 1) = cellJ xs C (s + q) R k ++ ([32] ++ entL x C)) := by show _ = _; rw [cellJ_succ _ _ _ _ _ h0, HT.out]
            clear h0
            go_wp2
            go_roundw
            case rel => exact ⟨k + 1, _, by omega, by go_num, rfl, by rw [ByteArray.size_append, ByteArray.size_append, show (ByteArray.mk #[32]).size = 1 from rfl]; omega, by rw [HJ.out, ← List.append_assoc]; exact (HO.out.1.app (IsS.mk [32])).app HF.out.2, HC.out, HF.out.1⟩
            case measure => simp [intOf]; omega
          · have g1 : ¬ (0 : Int) < (k : Int) := by omega
            have HJ : Hid (cellJ xs C (s + q) R (k + 1) = cellJ xs C (s + q) R k ++ entL x C) := by
              obtain rfl : k = 0 := by omega
              show _ = _
              rw [cellJ_zero, cellJ_one, HT.out]
              rfl
            clear h0
            go_wp2
            go_roundw
            case rel => exact ⟨k + 1, _, by omega, by go_num, rfl, by rw [ByteArray.size_append]; omega, by rw [HJ.out]; exact HO.out.1.app HF.out.2, HC.out, HF.out.1⟩
            case measure => simp [intOf]; omega
      · have hkn : Hid (k = n) := by
          show _ = _
          rw [← HE.out.2.2]
          exact (nCol_eq (by rw [HE.out.2.2]; exact hk) (.inr (by rw [HZ.out]; omega))).symm
        have HB : Hid (B = true ∧ F = cellJ xs C (s + q) R k) := by
          have h1 : B = true := by rw [← HE.out.1]; unfold lnB; rw [HE.out.2.2, ← hkn.out]; exact HO.out.2
          refine ⟨h1, ?_⟩
          rw [← HE.out.2.1, if_pos h1]
          unfold lnL
          rw [HE.out.2.2, ← hkn.out]
        clear hB
        go_wp2
        go_ret2
        exact ⟨_, by rw [HB.out.1]; rfl, by rw [HB.out.2]; exact HO.out.1, hBA⟩
    · have hkn : Hid (k = n) := by show _ = _; omega
      have HB : Hid (B = true ∧ F = cellJ xs C (s + q) R k) := by
        have h1 : B = true := by rw [← HE.out.1]; unfold lnB; rw [HE.out.2.2, ← hkn.out]; exact HO.out.2
        refine ⟨h1, ?_⟩
        rw [← HE.out.2.1, if_pos h1]
        unfold lnL
        rw [HE.out.2.2, ← hkn.out]
      clear hB
      go_wp2
      go_ret2
      exact ⟨_, by rw [HB.out.1]; rfl, by rw [HB.out.2]; exact HO.out.1, hBA⟩
end Go.Proofs.YtdgnhplaakjlgaaGreatDoor
