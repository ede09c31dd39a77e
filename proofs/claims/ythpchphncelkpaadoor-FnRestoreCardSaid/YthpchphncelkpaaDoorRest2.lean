/- Contracts: a restored column, in the program. -/
import Derived.Test.YthpchphncelkpaaDoorRest
import Derived.Test.YthpchphncelkpaaDoorShort3
import Derived.Test.YthpchphncelkpaaDoorSlEq
namespace Go.Proofs.YthpchphncelkpaaDoor
set_option linter.unusedVariables false
open Go.RowKit

theorem fill_part {a s : ByteArray} {n : Nat} (hn : n ≤ a.size) (hl : lead s.data.toList = n) : fillN a.data.toList s.data.toList = n := by
  unfold fillN
  rw [hl, size_data]
  omega
theorem fill_all {f : Nat → Value} {z : Value} {xs : List ByteArray} : fill (fun i => .string (reE xs i)) (.string noS) xs.length xs.length = (restL [] xs).map Value.string := by
  rw [fill_end, restL_re, List.map_map]
  rfl

set_option maxRecDepth 4000 in
set_option maxHeartbeats 1600000 in
theorem c_impl_RestoreColumn (v : Value) (xs : List ByteArray) (w : World) (ha : RdS w v xs) (hx : xs.length ≤ 1048576) (hs : ∀ s ∈ xs, s.size ≤ 1048576) :
    Calls Tryd.prog 17 #[v] w (FreshS w (resF xs)) := by
  have ha0 := ha
  obtain ⟨a, cap, rfl, ha1⟩ := ha0
  clear ha1
  simp only [List.length_map] at ha ⊢
  by_cases h60 : 60 < xs.length
  · have E : Hid (resF xs = []) := resF_big h60
    have h1' : (60 : Int) < (xs.length : Int) := by omega
    go_enter Tryd.func17, Tryd.ntmps17
    go_wp2
    go_ret
    exact ⟨_, rfl, by rw [E.out]; exact OwnS_nil _ _, Below.refl _ _⟩
  · go_enter Tryd.func17, Tryd.ntmps17
    go_wp2_with (at_make; refine mkfull 23 9 Tryd.underlying23 infoStr rfl (by decide) rfl _ _ rfl xs.length rfl rfl rfl rfl (by omega) ?_; intro w2 ho2 hB2 hz2)
    go_loopw [4, 5, 6, 7, 16] (fun u _ _ _ i wr => ∃ (k : Nat) (O : ByteArray), k ≤ xs.length ∧ i = .int .i64 k ∧ u = .string O ∧ IsS O (aboveL xs k) ∧ wr.ownsRow w.heap.size 9 1 (.slice (some ⟨w.heap.size, 0, none⟩) xs.length xs.length) xs.length (fill (fun i => .string (reE xs i)) (.string noS) k xs.length) ∧ Below w.heap.size w wr) (fun _ _ _ _ i _ => xs.length - (intOf i).toNat)
    case atStart => exact ⟨0, noS, by omega, rfl, rfl, rfl, by rw [fill_zero]; exact ho2, hB2⟩
    case round =>
      obtain ⟨k, O, hk, rfl, rfl, hO, ho, hB⟩ := hrel
      by_cases hlt : k < xs.length
      · obtain ⟨b1, o1, rfl, hb1, e1⟩ := RdS_cell ha hB hlt
        have hz := hs (xs.getD k noS) (by simp [List.getD, hlt])
        have hOz : O.size ≤ 1048576 := by rw [hO.size]; exact aboveL_le hs k hk
        have hE := reE_is xs k
        have hE2 : Hid (IsS (reE xs k) (aboveL xs (k + 1))) := hE
        have hbad : O.size < lead (xs.getD k noS).data.toList → resF xs = [] := fun h => resF_bad hlt (by rw [← hO.size]; exact h)
        obtain ⟨y, hy⟩ : ∃ y, xs.getD k noS = y := ⟨_, rfl⟩
        rw [hy] at e1 hz hE hbad
        rw [show aboveL xs k = O.data.toList from hO.symm] at hE
        have hld := lead_le y.data.toList
        rw [size_data] at hld
        have hct := c_TrimLeft y wr
        have htl := trimL_lead y.data.toList
        rw [size_data] at htl
        have hfp : lead y.data.toList ≤ O.size → fillN O.data.toList y.data.toList = lead y.data.toList := fun h => fill_part h rfl
        obtain ⟨n, hn⟩ : ∃ n, lead y.data.toList = n := ⟨_, rfl⟩
        rw [hn] at hbad hld htl hfp
        have HA : Hid (RdS w (.slice (some ⟨b1, o1, none⟩) xs.length cap) xs ∧ ∀ s ∈ xs, s.size ≤ 1048576) := ⟨ha, hs⟩
        clear ha hs hO hy hn ho2 hB2
        generalize Lib.trimLeftB y.data.toList 32 = TL at hct htl
        go_wp2_with fail
        refine hct.mono ?_
        rintro e w' ⟨Z, rfl, hZ, hw'⟩
        subst hw'
        have hZs := hZ.size
        have hZn : Z.size = y.size - n := by omega
        have hw : (y.size : Int) - (Z.size : Int) = (n : Int) := by omega
        clear hZ hZs hct htl hZn
        by_cases hnO : n ≤ O.size
        · obtain ⟨U, T, g3, g4, g5, hI⟩ := fill_parts hnO hld (by omega) (hfp hnO)
          have hUT : U ++ T = reE xs k := hI.inj hE
          have hod : wr.ownsRow w.heap.size 9 1 (.slice (some ⟨w.heap.size, 0, none⟩) xs.length xs.length) xs.length (fill (fun i => .string (reE xs i)) (.string noS) k xs.length) := ho
          have hF := fill_step hod hlt
          obtain ⟨⟨x, e2⟩, e3, ho3⟩ := hF
          rw [← hUT] at ho3
          have e4 : (wr.setCell ⟨w.heap.size, k, none⟩ (.string (U ++ T))).cell? ⟨w.heap.size, k, none⟩ = some (.string (U ++ T)) := World.cell?_setCell_same _ _ _ e2
          have HO : Hid ((wr.setCell ⟨w.heap.size, k, none⟩ (.string (U ++ T))).ownsRow w.heap.size 9 1 (.slice (some ⟨w.heap.size, 0, none⟩) xs.length xs.length) xs.length (fill (fun i => .string (reE xs i)) (.string noS) (k + 1) xs.length) ∧ Below w.heap.size w (wr.setCell ⟨w.heap.size, k, none⟩ (.string (U ++ T)))) :=
            ⟨ho3, hB.setCell (p := ⟨w.heap.size, k, none⟩) (Nat.le_refl _) _⟩
          have i1 : (0 : Int) ≤ (k : Int) := by omega
          have i2 : (k : Int) < (xs.length : Int) := by omega
          have g1 : ¬ (O.size : Int) < (n : Int) := by omega
          have HE : Hid (IsS (U ++ T) (aboveL xs (k + 1))) := by rw [hUT]; exact hE2
          clear ho3 hod ho hB hI hUT hE hfp hbad e1 hld
          go_wp2
          go_region_held3 (fun wx => True) (trivial) (fail)
          go_wp2
          go_roundw
          case rel => exact ⟨k + 1, _, by omega, by go_num, rfl, HE.out, HO.out.1, HO.out.2.drew⟩
          case measure => simp [intOf]; omega
        · have E : Hid (resF xs = []) := hbad (by omega)
          have g1 : (O.size : Int) < (n : Int) := by omega
          clear hbad hfp hE e1 ho
          go_wp2
          go_ret
          exact ⟨_, rfl, by rw [E.out]; exact OwnS_nil _ _, hB⟩
      · have hkx : k = xs.length := by omega
        subst hkx
        rw [fill_all (f := fun _ => .string noS) (z := .string noS)] at ho
        have hsz := restL_sizes hs
        have hrl := restL_len [] xs
        have ho' : wr.ownsRow w.heap.size 9 1 (.slice (some ⟨w.heap.size, 0, none⟩) xs.length xs.length) (restL [] xs).length ((restL [] xs).map Value.string) := by rw [hrl]; exact ho
        have hRd := owns_RdS ho'
        have HC := c_impl_ShortenColumn _ (restL [] xs) _ hRd (by omega) (fun s h => by have := hsz s h; omega)
        have hSl := shorF_len (restL [] xs)
        have HE : Hid (resF xs = if shorF (restL [] xs) = xs then restL [] xs else []) := rfl
        obtain ⟨R, hR⟩ : ∃ R, restL [] xs = R := ⟨_, rfl⟩
        rw [hR] at HC ho ho' hSl HE hrl
        obtain ⟨S, hS⟩ : ∃ S, shorF R = S := ⟨_, rfl⟩
        rw [hS] at HC hSl HE
        clear hS hR hsz hRd hs hO ho2 hB2
        go_wp2_with fail
        refine HC.mono ?_
        rintro e w3 ⟨v2, rfl, ho2, hB3⟩
        replace ho := ownsRow_kept_below ho hB3
        replace hB := bthen hB hB3
        have hq := c_slEqual v2 _ S xs w3 (owns_RdS ho2) (ha.kept hB) (by omega) (by omega)
        clear HC hB3
        go_wp2_with fail
        refine hq.mono ?_
        rintro e w4 ⟨rfl, hB4⟩
        replace ho := ownsRow_kept_below ho hB4
        replace hB := bthen hB hB4
        by_cases hSx : S = xs
        · have HX : Hid (resF xs = R) := by show _ = _; rw [HE.out, if_pos hSx]
          rw [decide_eq_true hSx]
          have HO : Hid (OwnS w4 w.heap.size (.slice (some ⟨w.heap.size, 0, none⟩) xs.length xs.length) R ∧ Below w.heap.size w w4) := ⟨by unfold OwnS; rw [hrl]; exact ho, hB⟩
          clear hSx ho hB ho2 hB4 hq ho' ha
          go_wp2
          go_ret
          exact ⟨_, rfl, by rw [HX.out]; exact HO.out.1, HO.out.2⟩
        · have HX : Hid (resF xs = []) := by show _ = _; rw [HE.out, if_neg hSx]
          rw [decide_eq_false hSx]
          clear hSx ho ho2 hB4 hq ho' ha
          go_wp2
          go_ret
          exact ⟨_, rfl, by rw [HX.out]; exact OwnS_nil _ _, hB⟩
end Go.Proofs.YthpchphncelkpaaDoor
