/- Contracts: a shortened column, in the program. -/
import Derived.Test.YthpchphncelkpaaDoorShort2
namespace Go.Proofs.YthpchphncelkpaaDoor
set_option linter.unusedVariables false
open Go.RowKit

theorem colsB_alike {xs : List ByteArray} (h : 0 < xs.length) : colsB xs = (decide (xs.length ≤ 60) && xs.all fun s => alikeB (xs.getD 0 noS) s) := by
  have hg : xs.getD 0 noS = xs[0] := by simp [List.getD, h]
  unfold colsB
  congr 1
  cases hc : colB (xs.getD 0 noS)
  · rw [all_false_at' h (by rw [← hg, hc]; rfl), all_false_at' h (by unfold alikeB; rw [hc]; rfl)]
  · refine congrArg (List.all xs) (funext fun s => ?_)
    unfold alikeB
    rw [hc, Bool.true_and]
    congr 1
    exact decide_eq_decide.2 eq_comm

set_option maxHeartbeats 1600000 in
theorem c_impl_ShortenColumn (v : Value) (xs : List ByteArray) (w : World) (ha : RdS w v xs) (hx : xs.length ≤ 9223372036854775807) (hs : ∀ s ∈ xs, s.size ≤ 9223372036854775807) :
    Calls Tryd.prog 14 #[v] w (FreshS w (shorF xs)) := by
  have ha0 := ha
  obtain ⟨a, cap, rfl, ha1⟩ := ha0
  clear ha1
  simp only [List.length_map] at ha ⊢
  by_cases h60 : 60 < xs.length
  · have E : Hid (shorF xs = []) := by show _ = _; unfold shorF colsB; rw [decide_eq_false (by omega)]; rfl
    have h1' : (60 : Int) < (xs.length : Int) := by omega
    go_enter Tryd.func14, Tryd.ntmps14
    go_wp2
    go_ret
    exact ⟨_, rfl, by rw [E.out]; exact OwnS_nil _ _, Below.refl _ _⟩
  · go_enter Tryd.func14, Tryd.ntmps14
    go_wp2
    go_loop [4, 14] (fun c i => ∃ k : Nat, k ≤ xs.length ∧ i = .int .i64 k ∧ ((xs.take k).all fun s => alikeB (xs.getD 0 noS) s) = true) (fun _ i => xs.length - (intOf i).toNat)
    case atStart => exact ⟨0, by omega, rfl, rfl⟩
    case round =>
      obtain ⟨k, hk, rfl, hall⟩ := hrel
      have HA : Hid _ := hall
      clear hall
      by_cases hlt : k < xs.length
      · have h0 : 0 < xs.length := by omega
        obtain ⟨b1, o1, rfl, hb1, e1⟩ := RdS_cell ha (Below.refl _ _) hlt
        obtain ⟨_, _, he2, _, e2⟩ := RdS_cell ha (Below.refl _ _) h0
        simp only [Option.some.injEq, Addr.mk.injEq] at he2
        obtain ⟨rfl, rfl, _⟩ := he2
        have hz1 : (xs.getD k noS).size ≤ 9223372036854775807 := hs _ (by simp [List.getD, hlt])
        have hz2 : (xs.getD 0 noS).size ≤ 9223372036854775807 := hs _ (by simp [List.getD, h0])
        have ht := all_take_succ' (fun s => alikeB (xs.getD 0 noS) s) xs k hlt
        have hfa : alikeB (xs.getD 0 noS) xs[k] = false → colsB xs = false := fun h => by
          rw [colsB_alike h0, all_false_at' hlt h]; simp
        have hg : xs.getD k noS = xs[k] := by simp [List.getD, hlt]
        rw [hg] at e1 hz1
        obtain ⟨y, hy⟩ : ∃ y, xs[k] = y := ⟨_, rfl⟩
        rw [hy] at e1 hz1 ht hfa
        obtain ⟨z, hz⟩ : ∃ z, xs.getD 0 noS = z := ⟨_, rfl⟩
        have hc := c_alike z y w (by rw [← hz]; exact hz2) hz1
        have HT : Hid (alikeB z y = true → ((xs.take (k + 1)).all fun s => alikeB (xs.getD 0 noS) s) = true) := fun h => by rw [ht, HA.out, hz, h]; rfl
        rw [hz] at hfa e2
        simp only [Nat.add_zero] at e2
        have i3 : (0 : Int) < (xs.length : Int) := by omega
        clear ht hg hy hz ha hs HA hz1 hz2
        cases hv : alikeB z y
        · have E : Hid (shorF xs = []) := by show _ = _; unfold shorF; rw [hfa hv]; rfl
          rw [hv] at hc
          clear hv hfa
          go_wp2_with (go_at_call 51; refine hc.mono ?_; rintro e w' ⟨rfl, hw⟩; subst hw)
          go_ret
          exact ⟨_, rfl, by rw [E.out]; exact OwnS_nil _ _, Below.refl _ _⟩
        · have HN := HT.out hv
          have HN' : Hid _ := HN
          rw [hv] at hc
          clear hv hfa HN
          go_wp2_with (go_at_call 51; refine hc.mono ?_; rintro e w' ⟨rfl, hw⟩; subst hw)
          go_round
          case rel => exact ⟨k + 1, by omega, by go_num, HN'.out⟩
          case measure => simp [intOf]; omega
      · have hcol : 0 < xs.length → colsB xs = true := fun h0 => by
          rw [colsB_alike h0]
          have h := HA.out
          rw [List.take_of_length_le (by omega)] at h
          rw [h, decide_eq_true (by omega)]
          rfl
        have E : Hid (shorF xs = (List.range xs.length).map (shoE xs)) := by
          show _ = _
          by_cases h0 : 0 < xs.length
          · unfold shorF; rw [hcol h0]; rfl
          · obtain rfl : xs = [] := List.eq_nil_of_length_eq_zero (by omega)
            rfl
        have hall : ∀ s ∈ xs, colB s = true ∧ s.size = (xs.getD 0 noS).size := fun s h => (colsB_iff (hcol (List.length_pos_of_mem h))).2 s h
        clear hcol HA hs
        go_wp2_with (at_make; refine mkfull 23 9 Tryd.underlying23 infoStr rfl (by decide) rfl _ _ rfl xs.length rfl rfl rfl rfl (by omega) ?_; intro w2 ho2 hB2 hz2)
        go_loopw [6, 7, 8, 30] (fun a b c i wr => ∃ k : Nat, k ≤ xs.length ∧ i = .int .i64 k ∧ wr.ownsRow w.heap.size 9 1 (.slice (some ⟨w.heap.size, 0, none⟩) xs.length xs.length) xs.length (fill (fun i => .string (shoE xs i)) (.string noS) k xs.length) ∧ Below w.heap.size w wr) (fun _ _ _ i _ => xs.length - (intOf i).toNat)
        case atStart => exact ⟨0, by omega, rfl, by rw [fill_zero]; exact ho2, hB2⟩
        case round =>
          obtain ⟨k, hk, rfl, ho, hB⟩ := hrel
          by_cases hlt : k < xs.length
          · obtain ⟨b1, o1, rfl, hb1, e0⟩ := RdS_cell ha (Below.refl _ _) hlt
            have e1 := (keepW e0 hb1 hB).2
            obtain ⟨hcy, hsy⟩ := hall (xs.getD k noS) (by simp [List.getD, hlt])
            obtain ⟨y, hy⟩ : ∃ y, xs.getD k noS = y := ⟨_, rfl⟩
            rw [hy] at e0 e1 hcy hsy
            obtain ⟨c1, c2, _⟩ := colB_iff hcy
            have HY : Hid _ := hy
            clear hy hcy
            by_cases hk0 : 0 < k
            · obtain ⟨_, _, he, _, e2⟩ := RdS_cell ha hB (show k - 1 < xs.length by omega)
              simp only [Option.some.injEq, Addr.mk.injEq] at he
              obtain ⟨rfl, rfl, _⟩ := he
              obtain ⟨_, hsz⟩ := hall (xs.getD (k - 1) noS) (by simp [List.getD, show k - 1 < xs.length by omega])
              obtain ⟨z, hz⟩ : ∃ z, xs.getD (k - 1) noS = z := ⟨_, rfl⟩
              rw [hz] at e2 hsz
              have hN : shoN xs k = shL y.data.toList z.data.toList := by unfold shoN; rw [if_neg (by omega), HY.out, hz]
              have hle := shL_le y.data.toList z.data.toList
              rw [size_data] at hle
              obtain ⟨N, hNN⟩ : ∃ N, shL y.data.toList z.data.toList = N := ⟨_, rfl⟩
              rw [hNN] at hle hN
              have HZ : Hid (shoN xs k = N) := hN
              have HNN : Hid _ := hNN
              have hzy : y.size ≤ z.size := by omega
              have hcc : (k : Int) - 1 = ((k - 1 : Nat) : Int) := by omega
              have hw : IntKind.i64.wrap ((k : Int) - 1) = ((k - 1 : Nat) : Int) := by rw [IntWalk.i64_in _ (by omega)]; omega
              have i3 : (0 : Int) ≤ ((k - 1 : Nat) : Int) := by omega
              have i4 : ((k - 1 : Nat) : Int) < (xs.length : Int) := by omega
              have q0 : (0 : Int) < (k : Int) := by omega
              clear hz hN ha hNN hcc hall hsy hsz
              go_wp2
              go_loopw [8] (fun c wx => ∃ n m : Nat, n ≤ N ∧ c = .int .i64 n ∧ n + shL (y.data.toList.drop n) (z.data.toList.drop n) = N ∧ wx = wr.drewN m) (fun c _ => y.size - (intOf c).toNat)
              case atStart => exact ⟨0, 0, by omega, rfl, by simpa using HNN.out, rfl⟩
              case round =>
                obtain ⟨n, m, hn, rfl, hs, rfl⟩ := hrel
                have HS : Hid _ := hs
                clear hs
                by_cases hlt2 : n + 1 < y.size
                · have l1 : n + 1 < y.data.toList.length := by rw [size_data]; exact hlt2
                  have l2 : n < z.data.toList.length := by rw [size_data]; omega
                  have ea : y.data.toList[n]'(by omega) = y[n] := rfl
                  have eb : z.data.toList[n] = z[n] := rfl
                  have j1 : (0 : Int) ≤ (n : Int) := by omega
                  have j2 : (n : Int) < (y.size : Int) := by omega
                  have j3 : (n : Int) < (z.size : Int) := by omega
                  have q1 : (n : Int) < (y.size : Int) - 1 := by omega
                  have hw2 : IntKind.i64.wrap ((y.size : Int) - 1) = (y.size : Int) - 1 := IntWalk.i64_in _ (by omega)
                  by_cases he : y[n] = z[n]
                  · have HN : Hid (n + 1 + shL (y.data.toList.drop (n + 1)) (z.data.toList.drop (n + 1)) = N) := by
                      have h := shL_drop l1 l2 (by rw [ea, eb]; exact he)
                      have h2 := HS.out
                      rw [h] at h2
                      show _ = _
                      omega
                    have hnN : n + 1 ≤ N := by have := HN.out; omega
                    have et : ((y[n].toNat : Int) == (z[n].toNat : Int)) = true := by rw [he]; exact beq_self_eq_true _
                    clear he ea eb
                    go_wp2
                    go_quiet (fail)
                    go_wp2
                    go_roundw
                    case rel => exact ⟨n + 1, _, by omega, by go_num, HN.out, rfl⟩
                    case measure => simp [intOf]; omega
                  · have hnN : n = N := by
                      have h := shL_drop_ne l1 l2 (by rw [ea, eb]; exact he)
                      have h2 := HS.out
                      rw [h] at h2
                      omega
                    have et : ((y[n].toNat : Int) == (z[n].toNat : Int)) = false := beq_eq_false_iff_ne.2 (fun q => he (UInt8.toNat_inj.1 (by omega)))
                    clear he ea eb HS
                    subst hnN
                    go_wp2
                    go_quiet (fail)
                    go_wp2
                    rename_i nq
                    clear et q1 hw hw2 e2
                    have g1 : (0 : Int) ≤ (n : Int) := by omega
                    have g2 : (n : Int) ≤ (y.size : Int) := by omega
                    obtain ⟨T, g3, hTs, hT⟩ := slice_fromT y n (by omega)
                    have i1 : (0 : Int) ≤ (k : Int) := by omega
                    have i2 : (k : Int) < (xs.length : Int) := by omega
                    have hoWd : (wr.drewN (m + nq + 1)).ownsRow w.heap.size 9 1 (.slice (some ⟨w.heap.size, 0, none⟩) xs.length xs.length) xs.length (fill (fun i => .string (shoE xs i)) (.string noS) k xs.length) := ho
                    have hBWd := below_drewN hB (m + nq + 1)
                    clear ho hB e0 e1 ho2 hB2
                    go_region_held3 (fun wx => True) (trivial)
                      (first
                        | (go_at_call 52; refine (c_RepeatSp _ _ (by omega) (by omega)).mono ?_; rintro e w3 ⟨Y, rfl, hY, hB3⟩; have hYs : Y.size ≤ 12 := (by rw [hY.size, List.length_replicate]; omega); have g5 : (9223372036854775807 < Y.size + T.size) = False := eq_false (by omega); have hF := fill_step (ownsRow_kept_below hoWd hB3) hlt; obtain ⟨⟨x, e2⟩, e3, ho3⟩ := hF; have hB4 := bthen hBWd hB3))
                    have HO : Hid ((w3.setCell ⟨w.heap.size, k, none⟩ (.string (Y ++ T))).ownsRow w.heap.size 9 1 (.slice (some ⟨w.heap.size, 0, none⟩) xs.length xs.length) xs.length (fill (fun i => .string (shoE xs i)) (.string noS) (k + 1) xs.length) ∧ Below w.heap.size w (w3.setCell ⟨w.heap.size, k, none⟩ (.string (Y ++ T)))) :=
                      ⟨by rw [shoE_of HY.out HZ.out hY hT]; exact ho3, hB4.setCell (p := ⟨w.heap.size, k, none⟩) (Nat.le_refl _) _⟩
                    clear ho3 hB4 hoWd hBWd hY hT g3 g5 hTs hYs e2 e3 hB3
                    go_wp2
                    go_roundw
                    case rel => exact ⟨k + 1, by omega, by go_num, HO.out.1, HO.out.2⟩
                    case measure => simp [intOf]; omega
                · have hnN : n = N := by
                    have h := shL_stop (a := y.data.toList.drop n) (b := z.data.toList.drop n) (by rw [List.length_drop, size_data]; omega)
                    have h2 := HS.out
                    rw [h] at h2
                    omega
                  have hw2 : IntKind.i64.wrap ((y.size : Int) - 1) = (y.size : Int) - 1 := IntWalk.i64_in _ (by omega)
                  have q1 : decide ((n : Int) < (y.size : Int) - 1) = false := decide_eq_false (by omega)
                  clear HS
                  subst hnN
                  go_wp2
                  go_quiet (fail)
                  go_wp2
                  rename_i nq
                  clear q1 hw hw2 e2
                  have g1 : (0 : Int) ≤ (n : Int) := by omega
                  have g2 : (n : Int) ≤ (y.size : Int) := by omega
                  obtain ⟨T, g3, hTs, hT⟩ := slice_fromT y n (by omega)
                  have i1 : (0 : Int) ≤ (k : Int) := by omega
                  have i2 : (k : Int) < (xs.length : Int) := by omega
                  have hoWd : (wr.drewN (m + nq + 1)).ownsRow w.heap.size 9 1 (.slice (some ⟨w.heap.size, 0, none⟩) xs.length xs.length) xs.length (fill (fun i => .string (shoE xs i)) (.string noS) k xs.length) := ho
                  have hBWd := below_drewN hB (m + nq + 1)
                  clear ho hB e0 e1 ho2 hB2
                  go_region_held3 (fun wx => True) (trivial)
                    (first
                      | (go_at_call 52; refine (c_RepeatSp _ _ (by omega) (by omega)).mono ?_; rintro e w3 ⟨Y, rfl, hY, hB3⟩; have hYs : Y.size ≤ 12 := (by rw [hY.size, List.length_replicate]; omega); have g5 : (9223372036854775807 < Y.size + T.size) = False := eq_false (by omega); have hF := fill_step (ownsRow_kept_below hoWd hB3) hlt; obtain ⟨⟨x, e2⟩, e3, ho3⟩ := hF; have hB4 := bthen hBWd hB3))
                  have HO : Hid ((w3.setCell ⟨w.heap.size, k, none⟩ (.string (Y ++ T))).ownsRow w.heap.size 9 1 (.slice (some ⟨w.heap.size, 0, none⟩) xs.length xs.length) xs.length (fill (fun i => .string (shoE xs i)) (.string noS) (k + 1) xs.length) ∧ Below w.heap.size w (w3.setCell ⟨w.heap.size, k, none⟩ (.string (Y ++ T)))) :=
                    ⟨by rw [shoE_of HY.out HZ.out hY hT]; exact ho3, hB4.setCell (p := ⟨w.heap.size, k, none⟩) (Nat.le_refl _) _⟩
                  clear ho3 hB4 hoWd hBWd hY hT g3 g5 hTs hYs e2 e3 hB3
                  go_wp2
                  go_roundw
                  case rel => exact ⟨k + 1, by omega, by go_num, HO.out.1, HO.out.2⟩
                  case measure => simp [intOf]; omega
            · have hk00 : ¬ (0 : Int) < (k : Int) := by omega
              have hd : decide ((0 : Int) < (k : Int)) = false := decide_eq_false hk00
              clear hall hsy
              go_wp2
              refine wp_loop_rounds 1 ?_
              rw [rounds_succ]
              go_wp2
              go_quiet (fail)
              go_wp2
              rename_i nq
              clear hd
              have HZ : Hid (shoN xs k = 0) := by show _ = _; unfold shoN; rw [if_pos (by omega)]
              obtain ⟨T, g3, hTs, hT⟩ := slice_fromT y 0 (by omega)
              rw [show ((0 : Nat) : Int) = 0 from rfl] at g3
              have i1 : (0 : Int) ≤ (k : Int) := by omega
              have i2 : (k : Int) < (xs.length : Int) := by omega
              have hoW : (wr.drewN nq).ownsRow w.heap.size 9 1 (.slice (some ⟨w.heap.size, 0, none⟩) xs.length xs.length) xs.length (fill (fun i => .string (shoE xs i)) (.string noS) k xs.length) := ho
              have hBW := below_drewN hB nq
              clear ho hB
              generalize wr.drewN nq = W at hoW hBW ⊢
              clear e0 e1 ho2 hB2
              have hoWd : W.drew.ownsRow w.heap.size 9 1 (.slice (some ⟨w.heap.size, 0, none⟩) xs.length xs.length) xs.length (fill (fun i => .string (shoE xs i)) (.string noS) k xs.length) := hoW
              have hBWd : Below w.heap.size w W.drew := hBW.drew
              go_region_held3 (fun wx => True) (trivial)
                (first
                  | (go_at_call 52; refine (c_RepeatSp _ _ (by omega) (by omega)).mono ?_; rintro e w3 ⟨Y, rfl, hY, hB3⟩; have hYs : Y.size ≤ 12 := (by rw [hY.size, List.length_replicate]; omega); have g5 : (9223372036854775807 < Y.size + T.size) = False := eq_false (by omega); have hF := fill_step (ownsRow_kept_below hoWd hB3) hlt; obtain ⟨⟨x, e2⟩, e3, ho3⟩ := hF; have hB4 := bthen hBWd hB3))
              have HO : Hid ((w3.setCell ⟨w.heap.size, k, none⟩ (.string (Y ++ T))).ownsRow w.heap.size 9 1 (.slice (some ⟨w.heap.size, 0, none⟩) xs.length xs.length) xs.length (fill (fun i => .string (shoE xs i)) (.string noS) (k + 1) xs.length) ∧ Below w.heap.size w (w3.setCell ⟨w.heap.size, k, none⟩ (.string (Y ++ T)))) :=
                ⟨by rw [shoE_of HY.out HZ.out hY hT]; exact ho3, hB4.setCell (p := ⟨w.heap.size, k, none⟩) (Nat.le_refl _) _⟩
              clear ho3 hB4 hoW hBW hoWd hBWd hY hT g3 g5 hTs hYs e2 e3 hB3
              go_wp2
              go_roundw
              case rel => exact ⟨k + 1, by omega, by go_num, HO.out.1, HO.out.2⟩
              case measure => simp [intOf]; omega
          · have HO : Hid (OwnS wr w.heap.size (.slice (some ⟨w.heap.size, 0, none⟩) xs.length xs.length) (shorF xs) ∧ Below w.heap.size w wr) := by
              have : k = xs.length := by omega
              subst this
              rw [fill_end] at ho
              refine ⟨?_, hB⟩
              rw [E.out]
              unfold OwnS
              rw [List.length_map, List.length_range, List.map_map]
              exact ho
            clear ho hB ha ho2 hB2 hall
            go_wp2
            go_ret
            exact ⟨_, rfl, HO.out.1, HO.out.2⟩
end Go.Proofs.YthpchphncelkpaaDoor
