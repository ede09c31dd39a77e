/- Contracts: a page is read, in the reference. -/
import Derived.Test.YtdgnhplaakjlgaaGreatDoorRp1
import Derived.Test.YtdgnhplaakjlgaaGreatDoorPg4
import Derived.Test.YtdgnhplaakjlgaaGreatDoorLin6
namespace Go.Proofs.YtdgnhplaakjlgaaGreatDoor
set_option linter.unusedVariables false
open Go.RowKit

theorem OwnI_made (w : World) (base : Nat) (h : base ≤ w.heap.size) : OwnI (w.alloc (.cells #[] 3)) base (.slice (some ⟨w.heap.size, 0, none⟩) 0 0) [] := World.ownsRow_made w #[] 0 h (by decide) rfl
theorem OwnI_nil (w : World) (base : Nat) : OwnI w base (.slice none 0 0) [] := World.ownsRow_nil _ _ _ _

set_option maxRecDepth 20000 in
set_option maxHeartbeats 1600000 in
theorem c_spec_ReadPage (r a c : Int) (v : Value) (ys : List ByteArray) (w : World) (ha : RdS w v ys) (hx : ys.length ≤ 1048576) (hs : ∀ y ∈ ys, y.size ≤ 1048576) :
    Calls Tryz.prog 7 #[(.agg #[.int .i64 r, .int .i64 a, .int .i64 c]), v] w (FreshIB w (rpV r a c ys) (rpB r a c ys)) := by
  have ha0 := ha
  obtain ⟨b, cap, rfl, ha1⟩ := ha0
  clear ha1
  simp only [List.length_map] at ha ⊢
  have hNo : ∀ h : rpB r a c ys = false, rpV r a c ys = [] := fun h => by unfold rpV; rw [h]; rfl
  cases hl : layB r a c
  · have h0 := rp_out (r := r) (a := a) (c := c) (ys := ys) (fun q => by rw [hl] at q; cases q.1)
    rw [hNo h0, h0]
    clear h0 hNo hs
    go_enter Tryz.func7, Tryz.ntmps7
    go_wp2_with fail
    refine (c_spec_LayoutValid _ _ _ _).mono ?_
    rw [hl]
    rintro e w1 ⟨rfl, hB1⟩
    have hA := balloc hB1
    clear hB1
    go_wp2
    go_ret2
    exact ⟨_, rfl, OwnI_made _ _ hA.size, hA.alloc hA.size _⟩
  · obtain ⟨R, A, C, rfl, rfl, rfl⟩ := lay_nat hl
    obtain ⟨l1, l2, l3, l4, l5, l6, l7, l8⟩ := lay_mul hl
    by_cases hin : 1 ≤ ys.length ∧ ys.length ≤ R
    · have hb1 : inB (ys.length : Int) 1 (R : Int) = true := inB_t (by omega) (by omega)
      have hXe : rpX (A : Int) (C : Int) ys = celV ys C A := by unfold rpX; rw [Int.toNat_natCast, Int.toNat_natCast]
      have hcl : (celV ys C A).length ≤ 6 * 1048576 := Nat.le_trans (celV_len ys C A) (Nat.mul_le_mul (by omega) hx)
      obtain ⟨X, hX⟩ : ∃ X, celV ys C A = X := ⟨_, rfl⟩
      rw [hX] at hXe hcl
      have HC : Hid (∀ W, Below w.heap.size w W → Calls Tryz.prog 30 #[(.agg #[.int .i64 (R : Int), .int .i64 (A : Int), .int .i64 (C : Int)]), .slice b ys.length cap] W (FreshI W X)) := by
        intro W hB
        rw [← hX]
        exact c_l6Cells R A C _ ys W (ha.kept hB) hx hs hl
      obtain ⟨P, hP⟩ : ∃ P, plinS (R : Int) (A : Int) (C : Int) X 0 = P := ⟨_, rfl⟩
      obtain ⟨Bp, hBp⟩ : ∃ Bp, plinB (R : Int) (A : Int) (C : Int) X 0 = Bp := ⟨_, rfl⟩
      have hPl : P.length ≤ 20 := by rw [← hP]; exact (plinS_small _ _ _ _ _).1
      have HP : Hid (∀ W u, RdI W u X → Calls Tryz.prog 22 #[(.agg #[.int .i64 (R : Int), .int .i64 (A : Int), .int .i64 (C : Int)]), u, (.int .i64 (0))] W (FreshSB W P Bp)) := by
        intro W u hu
        rw [← hP, ← hBp]
        exact c_spec_PageLines R A C u X 0 W hu (by omega)
      obtain ⟨B, hb⟩ : ∃ B, rpB (R : Int) (A : Int) (C : Int) ys = B := ⟨_, rfl⟩
      obtain ⟨F, hf⟩ : ∃ F, rpV (R : Int) (A : Int) (C : Int) ys = F := ⟨_, rfl⟩
      have HE : Hid (B = (Bp && (decide (P = ys) && decide ((X.length : Int) ≤ (R : Int) * A))) ∧ (if B = true then X else []) = F) := by
        refine ⟨?_, ?_⟩
        · rw [← hb]; unfold rpB; rw [hXe, hP, hBp]
        · rw [← hf, ← hb, ← hXe]; rfl
      rw [hb, hf]
      clear hNo hs hX hP hBp hb hf hXe
      go_enter Tryz.func7, Tryz.ntmps7
      go_wp2_with fail
      refine (c_spec_LayoutValid _ _ _ _).mono ?_
      rw [hl]
      rintro e w1 ⟨rfl, hB1⟩
      have hA1 : Below w.heap.size w w1 := balloc hB1
      have hz1 : w.heap.size < w1.heap.size := by have := hB1.size; simp at this; omega
      have k0 : w1.cell? ⟨w.heap.size, 0, none⟩ = some (.int .i64 ((R : Int))) := by rw [(bcell hB1).1 _ _ (by simp)]; simp [go_sem]
      have k1 : w1.cell? ⟨w.heap.size, 1, none⟩ = some (.int .i64 ((A : Int))) := by rw [(bcell hB1).1 _ _ (by simp)]; simp [go_sem]
      have k2 : w1.cell? ⟨w.heap.size, 2, none⟩ = some (.int .i64 ((C : Int))) := by rw [(bcell hB1).1 _ _ (by simp)]; simp [go_sem]
      clear hB1
      go_wp2_with (first | (go_at_call 29; refine (c_l1In _ _ _ _).mono ?_; rw [hb1]; rintro e w' ⟨rfl, rfl⟩))
      refine (HC.out _ hA1).mono ?_
      rintro e w2 ⟨u, rfl, ho2, hB2⟩
      have kc := (bcell hB2).1
      replace k0 : w2.cell? ⟨w.heap.size, 0, none⟩ = some (.int .i64 ((R : Int))) := by rw [kc _ _ hz1]; exact k0
      replace k1 : w2.cell? ⟨w.heap.size, 1, none⟩ = some (.int .i64 ((A : Int))) := by rw [kc _ _ hz1]; exact k1
      replace k2 : w2.cell? ⟨w.heap.size, 2, none⟩ = some (.int .i64 ((C : Int))) := by rw [kc _ _ hz1]; exact k2
      have hA2 := bthen hA1 hB2
      have hr2 := owns_RdI ho2
      have ho2' := ownsRow_mono ho2 hA1.size
      have hr0 := hr2
      obtain ⟨b2, cap2, rfl, hr1⟩ := hr0
      simp only [List.length_map] at hr2 ho2' ⊢
      clear kc hB2 ho2 hr1 hA1
      by_cases hlen : (X.length : Int) ≤ (R : Int) * (A : Int)
      · have g1 : ¬ (R : Int) * (A : Int) < (X.length : Int) := by omega
        cases hBp2 : Bp
        · have HB : Hid (B = false ∧ F = []) := by
            have h1 : B = false := by rw [HE.out.1, hBp2]; rfl
            exact ⟨h1, by rw [← HE.out.2, h1]; rfl⟩
          subst hBp2
          go_wp2_with fail
          refine (HP.out _ _ hr2).mono ?_
          rintro e w3 ⟨u3, rfl, ho3, hB3⟩
          have hA3 := bthen hA2 hB3
          clear ho3 hB3 hA2 ho2' k0 k1 k2
          go_wp2
          go_ret2
          exact ⟨_, by rw [HB.out.1]; rfl, by rw [HB.out.2]; exact OwnI_made _ _ hA3.size, hA3.alloc hA3.size _⟩
        · subst hBp2
          go_wp2_with fail
          refine (HP.out _ _ hr2).mono ?_
          rintro e w3 ⟨u3, rfl, ho3, hB3⟩
          have hA3 := bthen hA2 hB3
          have hc := c_l6LinesP u3 _ P ys w3 (owns_RdS ho3) (ha.kept hA3) (by omega) (by omega)
          have ho4 := ownsRow_kept_below ho2' hB3
          clear ho3 hB3 hA2 ho2' k0 k1 k2 ha hr2
          by_cases hq : P = ys
          · have HB : Hid (B = true ∧ F = X) := by
              have h1 : B = true := by rw [HE.out.1, decide_eq_true hq, decide_eq_true hlen]; rfl
              exact ⟨h1, by rw [← HE.out.2, if_pos h1]⟩
            rw [decide_eq_true hq] at hc
            clear hq
            go_wp2_with fail
            refine hc.mono ?_
            rintro e w4 ⟨rfl, hB4⟩
            have HO : Hid (OwnI w4 w.heap.size (.slice b2 X.length cap2) X ∧ Below w.heap.size w w4) := ⟨ownsRow_kept_below ho4 hB4, bthen hA3 hB4⟩
            clear hc ho4 hB4 hA3
            go_wp2
            go_ret2
            exact ⟨_, by rw [HB.out.1]; rfl, by rw [HB.out.2]; exact HO.out.1, HO.out.2⟩
          · have HB : Hid (B = false ∧ F = []) := by
              have h1 : B = false := by rw [HE.out.1, decide_eq_false hq]; rfl
              exact ⟨h1, by rw [← HE.out.2, h1]; rfl⟩
            rw [decide_eq_false hq] at hc
            clear hq
            go_wp2_with fail
            refine hc.mono ?_
            rintro e w4 ⟨rfl, hB4⟩
            have hA4 := bthen hA3 hB4
            clear hc ho4 hB4 hA3
            go_wp2
            go_ret2
            exact ⟨_, by rw [HB.out.1]; rfl, by rw [HB.out.2]; exact OwnI_made _ _ hA4.size, hA4.alloc hA4.size _⟩
      · have HB : Hid (B = false ∧ F = []) := by
          have h1 : B = false := by rw [HE.out.1, decide_eq_false hlen]; simp
          exact ⟨h1, by rw [← HE.out.2, h1]; rfl⟩
        have g1 : (R : Int) * (A : Int) < (X.length : Int) := by omega
        clear ho2' hr2
        go_wp2
        go_ret2
        exact ⟨_, by rw [HB.out.1]; rfl, by rw [HB.out.2]; exact OwnI_made _ _ hA2.size, hA2.alloc hA2.size _⟩
    · have h0 := rp_out (r := R) (a := A) (c := C) (ys := ys) (fun q => hin ⟨q.2.1, by omega⟩)
      rw [hNo h0, h0]
      have hb1 : inB (ys.length : Int) 1 (R : Int) = false := inB_f (by omega)
      clear h0 hNo hs hin
      go_enter Tryz.func7, Tryz.ntmps7
      go_wp2_with fail
      refine (c_spec_LayoutValid _ _ _ _).mono ?_
      rw [hl]
      rintro e w1 ⟨rfl, hB1⟩
      have hA1 : Below w.heap.size w w1 := balloc hB1
      have k0 : w1.cell? ⟨w.heap.size, 0, none⟩ = some (.int .i64 ((R : Int))) := by rw [(bcell hB1).1 _ _ (by simp)]; simp [go_sem]
      clear hB1
      go_wp2_with (first | (go_at_call 29; refine (c_l1In _ _ _ _).mono ?_; rw [hb1]; rintro e w' ⟨rfl, rfl⟩))
      go_ret2
      exact ⟨_, rfl, OwnI_made _ _ hA1.size, hA1.alloc hA1.size _⟩
end Go.Proofs.YtdgnhplaakjlgaaGreatDoor
