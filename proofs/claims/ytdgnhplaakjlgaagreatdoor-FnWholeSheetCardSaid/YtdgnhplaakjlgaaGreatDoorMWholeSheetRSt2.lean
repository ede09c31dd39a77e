/- Lemmas and contracts for WholeSheet (RSt2): plain words on memory, contracts of the functions that the law reaches. No condition but what each states. -/
import Derived.Test.YtdgnhplaakjlgaaGreatDoorMWholeSheetRSt
import Derived.Test.YtdgnhplaakjlgaaGreatDoorMWholeSheetSlEq
namespace Go.Proofs.YtdgnhplaakjlgaaGreatDoor
set_option linter.unusedVariables false
open Go.RowKit

theorem rsF_big {xs : List ByteArray} (h : 40 < xs.length) : rsB xs = false ∧ rsF xs = [] := by
  have h1 : rsB xs = false := by
    unfold rsB linesB
    rw [rsL_len, decide_eq_false (by omega)]
    rfl
  refine ⟨h1, ?_⟩
  unfold rsF; rw [h1]; rfl
theorem fill_rs (xs : List ByteArray) : fill (fun i => .string (rsS (xs.getD i noS))) (.string noS) xs.length xs.length = (rsL xs).map Value.string := by
  rw [fill_end, map_getD_endS xs rsS]
  rfl

set_option maxRecDepth 4000 in
set_option maxHeartbeats 1600000 in
theorem c_impl_ReadStereotype (v : Value) (xs : List ByteArray) (w : World) (ha : RdS w v xs) (hx : xs.length ≤ 1048576) (hs : ∀ s ∈ xs, s.size ≤ 1048576) :
    Calls Tryz.prog 15 #[v] w (FreshSB w (rsF xs) (rsB xs)) := by
  have ha0 := ha
  obtain ⟨a, cap, rfl, ha1⟩ := ha0
  clear ha1
  simp only [List.length_map] at ha ⊢
  by_cases h40 : 40 < xs.length
  · have E : Hid (rsB xs = false ∧ rsF xs = []) := rsF_big h40
    have h1' : (40 : Int) < (xs.length : Int) := by omega
    go_enter Tryz.func15, Tryz.ntmps15
    go_wp2
    go_ret2
    exact ⟨_, by rw [E.out.1]; rfl, by rw [E.out.2]; exact OwnS_nil _ _, Below.refl _ _⟩
  · go_enter Tryz.func15, Tryz.ntmps15
    go_wp2_with (at_make; refine mkfull 25 9 Tryz.underlying25 infoStr rfl (by decide) rfl _ _ rfl xs.length rfl rfl rfl rfl (by omega) ?_; intro w2 ho2 hB2 hz2)
    go_loopw [5, 6, 15] (fun _ _ i wr => ∃ k : Nat, k ≤ xs.length ∧ i = .int .i64 k ∧ wr.ownsRow w.heap.size 9 1 (.slice (some ⟨w.heap.size, 0, none⟩) xs.length xs.length) xs.length (fill (fun i => .string (rsS (xs.getD i noS))) (.string noS) k xs.length) ∧ Below w.heap.size w wr) (fun _ _ i _ => xs.length - (intOf i).toNat)
    case atStart => exact ⟨0, by omega, rfl, by rw [fill_zero]; exact ho2, hB2⟩
    case round =>
      obtain ⟨k, hk, rfl, ho, hB⟩ := hrel
      by_cases hlt : k < xs.length
      · obtain ⟨b1, o1, rfl, hb1, e1⟩ := RdS_cell ha hB hlt
        have h1 := hs (xs.getD k noS) (by simp [List.getD, hlt])
        obtain ⟨y, hy⟩ : ∃ y, xs.getD k noS = y := ⟨_, rfl⟩
        rw [hy] at e1 h1
        have HY : Hid _ := hy
        clear hy
        go_wp2_with fail
        refine (c_mirrored _ _ (by omega)).mono ?_
        rintro e w3 ⟨Z, rfl, hZ, hB3⟩
        replace ho := ownsRow_kept_below ho hB3
        replace hB := bthen hB hB3
        have hZs := hZ.size
        rw [List.length_reverse, size_data] at hZs
        have hct := c_TrimRight Z w3 (by omega)
        rw [show Z.data.toList = y.data.toList.reverse from hZ] at hct
        clear hZs
        go_wp2_with fail
        refine hct.mono ?_
        rintro e w4 ⟨T, rfl, hT, rfl⟩
        have hTe : T = rsS y := hT.inj (rsS_is y)
        subst hTe
        obtain ⟨⟨x, e2⟩, e3, ho3⟩ := fill_step ho hlt
        simp only [HY.out] at ho3
        have HO : Hid (_ ∧ _) := ⟨ho3, hB.setCell (p := ⟨w.heap.size, k, none⟩) (Nat.le_refl _) (.string (rsS y))⟩
        clear ho ho3 hB hB3 hZ hT ho2 hB2 e1 ha hs hct
        go_wp2
        go_roundw
        case rel => exact ⟨k + 1, by omega, by go_num, HO.out.1, HO.out.2⟩
        case measure => simp [intOf]; omega
      · have hkx : k = xs.length := by omega
        subst hkx
        rw [fill_rs] at ho
        have hsz : ∀ s ∈ rsL xs, s.size ≤ 1048576 := fun s h => by
          obtain ⟨y, hy, rfl⟩ := List.mem_map.1 h
          have := rsS_size y
          have := hs y hy
          omega
        have hrl := rsL_len xs
        have ho' : OwnS wr w.heap.size (.slice (some ⟨w.heap.size, 0, none⟩) xs.length xs.length) (rsL xs) := by unfold OwnS; rw [hrl]; exact ho
        have HF : Hid (rsF xs = if rsB xs = true then rsL xs else []) := rfl
        have HB : Hid (rsB xs = (linesB (rsL xs) && decide (plateF (rsL xs) = xs))) := rfl
        obtain ⟨R, hR⟩ : ∃ R, rsL xs = R := ⟨_, rfl⟩
        rw [hR] at ho' hsz hrl HF HB
        have hRd := owns_RdS ho'
        clear ho hR hs ho2 hB2
        have hc := c_impl_LinesValid _ R wr hRd (by omega) (fun s h => by have := hsz s h; omega)
        cases hv : linesB R
        · have HX : Hid (rsB xs = false ∧ rsF xs = []) := by
            have h1 : rsB xs = false := by rw [HB.out, hv]; rfl
            refine ⟨h1, ?_⟩
            rw [HF.out, h1]; rfl
          rw [hv] at hc
          clear hv HB HF
          go_wp2_with (first | (go_at_call 50; refine hc.mono ?_; rintro e w2 ⟨rfl, hB2⟩))
          go_ret2
          exact ⟨_, by rw [HX.out.1]; rfl, by rw [HX.out.2]; exact OwnS_nil _ _, bthen hB hB2⟩
        · rw [hv] at hc
          have hpl := plateF_len R
          go_wp2_with fail
          refine hc.mono ?_
          rintro e w2 ⟨rfl, hB2⟩
          replace ho' := ownsRow_kept_below ho' hB2
          replace hB := bthen hB hB2
          have hc2 := c_impl_StereotypeOf _ R w2 (hRd.kept hB2) (by omega) (fun s h => by have := hsz s h; omega)
          clear hc
          go_wp2_with fail
          refine hc2.mono ?_
          rintro e w3 ⟨v3, rfl, ho3, hB3⟩
          replace ho' := ownsRow_kept_below ho' hB3
          replace hB := bthen hB hB3
          have hc3 := c_slEqual v3 _ (plateF R) xs w3 (owns_RdS ho3) (ha.kept hB) (by omega) (by omega)
          clear hc2
          go_wp2_with fail
          refine hc3.mono ?_
          rintro e w4 ⟨rfl, hB4⟩
          replace ho' := ownsRow_kept_below ho' hB4
          replace hB := bthen hB hB4
          by_cases hP : plateF R = xs
          · have HX : Hid (rsB xs = true ∧ rsF xs = R) := by
              have h1 : rsB xs = true := by rw [HB.out, hv, decide_eq_true hP]; rfl
              refine ⟨h1, ?_⟩
              rw [HF.out, if_pos h1]
            rw [decide_eq_true hP]
            have HO : Hid (OwnS w4 w.heap.size (.slice (some ⟨w.heap.size, 0, none⟩) xs.length xs.length) R ∧ Below w.heap.size w w4) := ⟨ho', hB⟩
            clear hv HB HF hP ho' hB hc3 ho3 ha
            go_wp2
            go_ret2
            exact ⟨_, by rw [HX.out.1]; rfl, by rw [HX.out.2]; exact HO.out.1, HO.out.2⟩
          · have HX : Hid (rsB xs = false ∧ rsF xs = []) := by
              have h1 : rsB xs = false := by rw [HB.out, decide_eq_false hP, Bool.and_false]
              refine ⟨h1, ?_⟩
              rw [HF.out, h1]; rfl
            rw [decide_eq_false hP]
            clear hv HB HF hP ho' hc3 ho3 ha
            go_wp2
            go_ret2
            exact ⟨_, by rw [HX.out.1]; rfl, by rw [HX.out.2]; exact OwnS_nil _ _, hB⟩
end Go.Proofs.YtdgnhplaakjlgaaGreatDoor
