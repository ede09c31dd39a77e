/- Lemmas and contracts for WholeSheet (Rp5): plain words on memory, contracts of the functions that the law reaches. No condition but what each states. -/
import Derived.Test.YtdgnhplaakjlgaaGreatDoorMWholeSheetRp3
import Derived.Test.YtdgnhplaakjlgaaGreatDoorMWholeSheetPg5
namespace Go.Proofs.YtdgnhplaakjlgaaGreatDoor
set_option linter.unusedVariables false
open Go.RowKit

theorem k_impl_PageLines2 (r a c : Int) (v : Value) (xs : List Int) (p : Int) (w : World) (htab : TabW w) {base : Nat} (ho : OwnI w base v xs) (hx : xs.length ≤ 1099511627776) :
    Calls Tryz.prog 9 #[(.agg #[.int .i64 r, .int .i64 a, .int .i64 c]), v, (.int .i64 (p))] w (FreshSB w (plinS r a c xs p) (plinB r a c xs p)) := by
  have hr := owns_RdI ho
  obtain ⟨b, cap, rfl, h1, h2⟩ := own_cap ho
  exact c_impl_PageLines r a c b cap xs p w htab hr hx h1 h2

set_option maxRecDepth 20000 in
set_option maxHeartbeats 1600000 in
theorem c_impl_ReadPage (r a c : Int) (v : Value) (ys : List ByteArray) (w : World) (htab : TabW w) (herr : ErrW w) (ha : RdS w v ys) (hx : ys.length ≤ 1048576) (hs : ∀ y ∈ ys, y.size ≤ 1048576) :
    Calls Tryz.prog 6 #[(.agg #[.int .i64 r, .int .i64 a, .int .i64 c]), v] w (FreshIB w (rpV r a c ys) (rpB r a c ys)) := by
  have ha0 := ha
  obtain ⟨b, cap, rfl, ha1⟩ := ha0
  clear ha1
  simp only [List.length_map] at ha ⊢
  have hNo : ∀ h : rpB r a c ys = false, rpV r a c ys = [] := fun h => by unfold rpV; rw [h]; rfl
  cases hl : layB r a c
  · have h0 := rp_no (r := r) (a := a) (c := c) (ys := ys) (fun q => by rw [hl] at q; cases q.1)
    rw [hNo h0, h0]
    clear h0 hNo hs htab herr
    go_enter Tryz.func6, Tryz.ntmps6
    go_wp2_with fail
    refine (c_impl_LayoutValid _ _ _ _).mono ?_
    rw [hl]
    rintro e w1 ⟨rfl, hB1⟩
    have hA := balloc hB1
    clear hB1
    go_wp2
    go_ret2
    exact ⟨_, rfl, OwnI_nil _ _, hA⟩
  · obtain ⟨R, A, C, rfl, rfl, rfl⟩ := lay_nat hl
    obtain ⟨l1, l2, l3, l4, l5, l6, l7, l8⟩ := lay_mul hl
    have HC : Hid (∀ W, Below w.heap.size w W → Calls Tryz.prog 26 #[(.agg #[.int .i64 (R : Int), .int .i64 (A : Int), .int .i64 (C : Int)]), .slice b ys.length cap] W (FreshIB W (rlF ys C R A) (rdB ys C R A))) :=
      fun W hB => c_readLines R A C _ ys W (htab.below hB) (herr.below hB) (ha.kept hB) hx hs hl
    cases hrd : rdB ys C R A
    · have h0 := rp_no (r := R) (a := A) (c := C) (ys := ys) (fun q => by
        have := q.2
        rw [Int.toNat_natCast, Int.toNat_natCast, Int.toNat_natCast, hrd] at this
        cases this)
      rw [hNo h0, h0]
      rw [hrd] at HC
      clear h0 hNo hs htab herr hrd
      go_enter Tryz.func6, Tryz.ntmps6
      go_wp2_with fail
      refine (c_impl_LayoutValid _ _ _ _).mono ?_
      rw [hl]
      rintro e w1 ⟨rfl, hB1⟩
      have hA1 : Below w.heap.size w w1 := balloc hB1
      have k0 : w1.cell? ⟨w.heap.size, 0, none⟩ = some (.int .i64 ((R : Int))) := by rw [(bcell hB1).1 _ _ (by simp)]; simp [go_sem]
      have k1 : w1.cell? ⟨w.heap.size, 1, none⟩ = some (.int .i64 ((A : Int))) := by rw [(bcell hB1).1 _ _ (by simp)]; simp [go_sem]
      have k2 : w1.cell? ⟨w.heap.size, 2, none⟩ = some (.int .i64 ((C : Int))) := by rw [(bcell hB1).1 _ _ (by simp)]; simp [go_sem]
      clear hB1
      go_wp2_with fail
      refine (HC.out _ hA1).mono ?_
      rintro e w2 ⟨u, rfl, ho2, hB2⟩
      have hA2 := bthen hA1 hB2
      clear ho2 hB2 hA1 k0 k1 k2
      go_wp2
      go_ret2
      exact ⟨_, rfl, OwnI_nil _ _, hA2⟩
    · have hXe : rpX (A : Int) (C : Int) ys = celV ys C A := by unfold rpX; rw [Int.toNat_natCast, Int.toNat_natCast]
      have hrl : rlF ys C R A = celV ys C A := by unfold rlF; rw [hrd]; rfl
      have hcl : (celV ys C A).length ≤ 6 * 1048576 := Nat.le_trans (celV_len ys C A) (Nat.mul_le_mul (by omega) hx)
      rw [hrd, hrl] at HC
      obtain ⟨X, hX⟩ : ∃ X, celV ys C A = X := ⟨_, rfl⟩
      rw [hX] at hXe hcl HC
      obtain ⟨P, hP⟩ : ∃ P, plinS (R : Int) (A : Int) (C : Int) X 0 = P := ⟨_, rfl⟩
      obtain ⟨Bp, hBp⟩ : ∃ Bp, plinB (R : Int) (A : Int) (C : Int) X 0 = Bp := ⟨_, rfl⟩
      have hPl : P.length ≤ 20 := by rw [← hP]; exact (plinS_small _ _ _ _ _).1
      have HP : Hid (∀ W u, Below w.heap.size w W → OwnI W w.heap.size u X → Calls Tryz.prog 9 #[(.agg #[.int .i64 (R : Int), .int .i64 (A : Int), .int .i64 (C : Int)]), u, (.int .i64 (0))] W (FreshSB W P Bp)) := by
        intro W u hB hu
        rw [← hP, ← hBp]
        exact k_impl_PageLines2 R A C u X 0 W (htab.below hB) hu (by omega)
      have HPN : Hid (Bp = true → (pnF (R : Int) (A : Int) (C : Int) X.length = 1 ↔ (X.length : Int) ≤ (R : Int) * A)) := by
        intro h
        rw [← hBp] at h
        exact rp_pn h
      obtain ⟨B, hb⟩ : ∃ B, rpB (R : Int) (A : Int) (C : Int) ys = B := ⟨_, rfl⟩
      obtain ⟨F, hf⟩ : ∃ F, rpV (R : Int) (A : Int) (C : Int) ys = F := ⟨_, rfl⟩
      have HE : Hid (B = (Bp && (decide (P = ys) && decide ((X.length : Int) ≤ (R : Int) * A))) ∧ (if B = true then X else []) = F) := by
        refine ⟨?_, ?_⟩
        · rw [← hb]; unfold rpB; rw [hXe, hP, hBp]
        · rw [← hf, ← hb, ← hXe]; rfl
      rw [hb, hf]
      obtain ⟨pn, hpn⟩ : ∃ pn, pnF (R : Int) (A : Int) (C : Int) X.length = pn := ⟨_, rfl⟩
      have HPF := Lib.hid hpn
      clear hNo hs hX hP hBp hb hf hXe hrl hrd htab herr hpn
      go_enter Tryz.func6, Tryz.ntmps6
      go_wp2_with fail
      refine (c_impl_LayoutValid _ _ _ _).mono ?_
      rw [hl]
      rintro e w1 ⟨rfl, hB1⟩
      have hA1 : Below w.heap.size w w1 := balloc hB1
      have hz1 : w.heap.size < w1.heap.size := by have := hB1.size; simp at this; omega
      have k0 : w1.cell? ⟨w.heap.size, 0, none⟩ = some (.int .i64 ((R : Int))) := by rw [(bcell hB1).1 _ _ (by simp)]; simp [go_sem]
      have k1 : w1.cell? ⟨w.heap.size, 1, none⟩ = some (.int .i64 ((A : Int))) := by rw [(bcell hB1).1 _ _ (by simp)]; simp [go_sem]
      have k2 : w1.cell? ⟨w.heap.size, 2, none⟩ = some (.int .i64 ((C : Int))) := by rw [(bcell hB1).1 _ _ (by simp)]; simp [go_sem]
      clear hB1
      go_wp2_with fail
      refine (HC.out _ hA1).mono ?_
      rintro e w2 ⟨u, rfl, ho2, hB2⟩
      have kc := (bcell hB2).1
      replace k0 : w2.cell? ⟨w.heap.size, 0, none⟩ = some (.int .i64 ((R : Int))) := by rw [kc _ _ hz1]; exact k0
      replace k1 : w2.cell? ⟨w.heap.size, 1, none⟩ = some (.int .i64 ((A : Int))) := by rw [kc _ _ hz1]; exact k1
      replace k2 : w2.cell? ⟨w.heap.size, 2, none⟩ = some (.int .i64 ((C : Int))) := by rw [kc _ _ hz1]; exact k2
      have hz2 : w.heap.size < w2.heap.size := by have := hB2.size; omega
      have hA2 := bthen hA1 hB2
      have ho2' := ownsRow_mono ho2 hA1.size
      have hr0 := owns_RdI ho2
      obtain ⟨b2, cap2, rfl, hr1⟩ := hr0
      simp only [List.length_map] at ho2' ⊢
      clear kc hB2 ho2 hr1 hA1
      have hp := HP.out w2 _ hA2 ho2'
      cases hBp2 : Bp
      · have HB : Hid (B = false ∧ F = []) := by
          have h1 : B = false := by rw [HE.out.1, hBp2]; rfl
          exact ⟨h1, by rw [← HE.out.2, h1]; rfl⟩
        subst hBp2
        go_wp2_with fail
        refine hp.mono ?_
        rintro e w3 ⟨u3, rfl, ho3, hB3⟩
        have hA3 := bthen hA2 hB3
        clear ho3 hB3 hA2 ho2' k0 k1 k2 hp
        go_wp2
        go_ret2
        exact ⟨_, by rw [HB.out.1]; rfl, by rw [HB.out.2]; exact OwnI_nil _ _, hA3⟩
      · subst hBp2
        go_wp2_with fail
        refine hp.mono ?_
        rintro e w3 ⟨u3, rfl, ho3, hB3⟩
        have hA3 := bthen hA2 hB3
        have hc := c_slEqual u3 _ P ys w3 (owns_RdS ho3) (ha.kept hA3) (by omega) (by omega)
        have ho4 := ownsRow_kept_below ho2' hB3
        have kc := (bcell hB3).1
        replace k0 : w3.cell? ⟨w.heap.size, 0, none⟩ = some (.int .i64 ((R : Int))) := by rw [kc _ _ hz2]; exact k0
        replace k1 : w3.cell? ⟨w.heap.size, 1, none⟩ = some (.int .i64 ((A : Int))) := by rw [kc _ _ hz2]; exact k1
        replace k2 : w3.cell? ⟨w.heap.size, 2, none⟩ = some (.int .i64 ((C : Int))) := by rw [kc _ _ hz2]; exact k2
        have hz3 : w.heap.size < w3.heap.size := by have := hB3.size; omega
        clear ho3 hB3 hA2 ho2' ha hp kc
        by_cases hq : P = ys
        · have HB : Hid (B = decide ((X.length : Int) ≤ (R : Int) * A)) := by
            show _ = _
            rw [HE.out.1, decide_eq_true hq]; rfl
          rw [decide_eq_true hq] at hc
          clear hq
          go_wp2_with fail
          refine hc.mono ?_
          rintro e w4 ⟨rfl, hB4⟩
          have kc := (bcell hB4).1
          replace k0 : w4.cell? ⟨w.heap.size, 0, none⟩ = some (.int .i64 ((R : Int))) := by rw [kc _ _ hz3]; exact k0
          replace k1 : w4.cell? ⟨w.heap.size, 1, none⟩ = some (.int .i64 ((A : Int))) := by rw [kc _ _ hz3]; exact k1
          replace k2 : w4.cell? ⟨w.heap.size, 2, none⟩ = some (.int .i64 ((C : Int))) := by rw [kc _ _ hz3]; exact k2
          replace ho4 := ownsRow_kept_below ho4 hB4
          replace hA3 := bthen hA3 hB4
          clear kc hB4 hc
          go_wp2_with fail
          refine (c_impl_PagesNeeded _ _ _ _ _).mono ?_
          rw [HPF.out]
          rintro e w5 ⟨rfl, hB5⟩
          have HO : Hid (OwnI w5 w.heap.size (.slice b2 X.length cap2) X ∧ Below w.heap.size w w5) := ⟨ownsRow_kept_below ho4 hB5, bthen hA3 hB5⟩
          clear ho4 hB5 hA3 k0 k1 k2
          have hpi := HPN.out (by trivial)
          rw [HPF.out] at hpi
          by_cases hp1 : pn = 1
          · have HB2 : Hid (B = true ∧ F = X) := by
              have h1 : B = true := by rw [HB.out]; exact decide_eq_true (hpi.1 hp1)
              exact ⟨h1, by rw [← HE.out.2, if_pos h1]⟩
            have e1 : (pn != 1) = false := by rw [hp1]; rfl
            clear hp1 hpi
            go_wp2
            go_ret2
            exact ⟨_, by rw [HB2.out.1]; rfl, by rw [HB2.out.2]; exact HO.out.1, HO.out.2⟩
          · have HB2 : Hid (B = false ∧ F = []) := by
              have h1 : B = false := by rw [HB.out]; exact decide_eq_false (fun q => hp1 (hpi.2 q))
              exact ⟨h1, by rw [← HE.out.2, h1]; rfl⟩
            have e1 : (pn != 1) = true := by rw [bne_iff_ne]; exact hp1
            clear hp1 hpi
            go_wp2
            go_ret2
            exact ⟨_, by rw [HB2.out.1]; rfl, by rw [HB2.out.2]; exact OwnI_nil _ _, HO.out.2⟩
        · have HB : Hid (B = false ∧ F = []) := by
            have h1 : B = false := by rw [HE.out.1, decide_eq_false hq]; rfl
            exact ⟨h1, by rw [← HE.out.2, h1]; rfl⟩
          rw [decide_eq_false hq] at hc
          clear hq
          go_wp2_with fail
          refine hc.mono ?_
          rintro e w4 ⟨rfl, hB4⟩
          have hA4 := bthen hA3 hB4
          clear hc ho4 hB4 hA3 k0 k1 k2
          go_wp2
          go_ret2
          exact ⟨_, by rw [HB.out.1]; rfl, by rw [HB.out.2]; exact OwnI_nil _ _, hA4⟩
end Go.Proofs.YtdgnhplaakjlgaaGreatDoor
