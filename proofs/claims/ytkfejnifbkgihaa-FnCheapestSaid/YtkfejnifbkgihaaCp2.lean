/- Contracts: the least costs, in the reference. -/
import Derived.Test.YtkfejnifbkgihaaCp1
import Derived.Test.YtkfejnifbkgihaaPlan8
import Derived.BigRegion
namespace Go.Proofs.Ytkfejnifbkgihaa
set_option linter.unusedVariables false
open Go.RowKit

/-- the least costs from place F on, naught before it -/
def bsT (d a b : Int) (xs : List Int) (F : Nat) : List Int := (List.range (xs.length + 1)).map fun j => if F ≤ j then bs d a b (xs.drop j) else 0
theorem bsT_len (d a b : Int) (xs : List Int) (F : Nat) : (bsT d a b xs F).length = xs.length + 1 := by simp [bsT]
theorem bsT_at {d a b : Int} {xs : List Int} {F j : Nat} (h : F ≤ j) (hj : j ≤ xs.length) : (bsT d a b xs F).getD j 0 = bs d a b (xs.drop j) := by
  simp [bsT, List.getD, show j < xs.length + 1 by omega, h]
theorem bsT_set (d a b : Int) (xs : List Int) (F : Nat) : (bsT d a b xs (F + 1)).set F (bs d a b (xs.drop F)) = bsT d a b xs F := by
  apply List.ext_getElem
  · simp [bsT]
  · intro i h1 h2
    rw [List.getElem_set]
    by_cases h : F = i
    · subst h; simp [bsT]
    · rw [if_neg h]
      simp only [bsT, List.getElem_map, List.getElem_range]
      by_cases hi : F ≤ i
      · rw [if_pos hi, if_pos (by omega)]
      · rw [if_neg hi, if_neg (by omega)]
theorem bsT_start (d a b : Int) (xs : List Int) : bsT d a b xs xs.length = List.replicate (xs.length + 1) 0 := by
  apply List.ext_getElem
  · simp [bsT]
  · intro i h1 h2
    simp [bsT] at h1 ⊢
    intro h
    have : i = xs.length := by omega
    subst this
    rw [List.drop_length]; rfl

/-- the row while place I is worked out: m runs are tried -/
def bsI (d a b : Int) (xs : List Int) (I m : Nat) : List Int := (bsT d a b xs (I + 1)).set I (mn (gC d a b (xs.drop I)) m)
theorem bsI_len (d a b : Int) (xs : List Int) (I m : Nat) : (bsI d a b xs I m).length = xs.length + 1 := by simp [bsI, bsT]
theorem bsI_at {d a b : Int} {xs : List Int} {I m c : Nat} (hc : 1 ≤ c) (h : I + c ≤ xs.length) : (bsI d a b xs I m).getD (I + c) 0 = bs d a b ((xs.drop I).drop c) := by
  unfold bsI
  simp only [List.getD]
  rw [List.getElem?_set_ne (by omega), List.drop_drop]
  exact bsT_at (by omega) h
theorem bsI_at0 {d a b : Int} {xs : List Int} {I m : Nat} (h : I ≤ xs.length) : (bsI d a b xs I m).getD I 0 = mn (gC d a b (xs.drop I)) m := by
  simp [bsI, bsT, List.getD, show I < xs.length + 1 by omega]
theorem bsI_set (d a b : Int) (xs : List Int) (I m : Nat) (x : Int) (h : x = mn (gC d a b (xs.drop I)) (m + 1)) : (bsI d a b xs I m).set I x = bsI d a b xs I (m + 1) := by
  subst h; simp [bsI]
theorem bsI_end {d a b : Int} {xs : List Int} {I : Nat} (h : I < xs.length) : bsI d a b xs I (lg (xs.drop I) d) = bsT d a b xs I := by
  unfold bsI
  rw [← bs_cons d a b (by intro e; have := congrArg List.length e; simp at this; omega)]
  exact bsT_set d a b xs I
abbrev OwnG (w : World) (g n : Nat) (xs : List Int) : Prop := w.ownsRow g 3 1 (.slice (some ⟨g, 0, none⟩) n n) n (xs.map (Value.int .i64))

theorem mn_nn (g : Nat → Int) : ∀ m, (∀ c, 0 ≤ g c) → 0 ≤ mn g m
  | 0, _ => by simp [mn]
  | m + 1, h => by
    have h1 := mn_nn g m h
    have h2 := h (m + 1)
    rw [mn]; omega
set_option maxRecDepth 20000 in
set_option maxHeartbeats 1600000 in
theorem c_l5Best (v : Value) (xs : List Int) (d a b : Int) (w : World) (hv : RdI w v xs) (hcap : CapOk v) (hs : smP xs) (h0 : 0 ≤ d) (h6 : d ≤ 6) (ha : 0 ≤ a ∧ a ≤ 1000) (hb : 0 ≤ b ∧ b ≤ 1000) :
    Calls Try.prog 97 #[v, (.int .i64 (d)), (.int .i64 (a)), (.int .i64 (b))] w (FreshI w (bsT d a b xs 0)) := by
  have hl60 := hs.2
  have HS := hidd hs
  obtain ⟨A0, cap, rfl⟩ := RdI_form hv
  have hcc : xs.length ≤ cap := hcap _ _ _ rfl
  obtain ⟨ha0, ha1⟩ := ha
  obtain ⟨hb0, hb1⟩ := hb
  clear hs hcap
  go_enter Try.func97, Try.ntmps97
  go_wp2_with (at_make; refine mkfull 25 3 Try.underlying25 infoInt rfl (by decide) rfl _ _ rfl (xs.length + 1) rfl rfl (by push_cast; rfl) (by push_cast; rfl) (by omega) ?_; intro w1 ho1 hB1 hz1)
  have ho1' : OwnG w1 w.heap.size (xs.length + 1) (bsT d a b xs xs.length) := by
    rw [bsT_start]
    unfold OwnG
    rw [List.map_replicate]; exact ho1
  clear ho1
  go_loopw [10, 11, 12, 13] (fun i _ _ _ wr => ∃ (z : Int) (F : Nat), i = .int .i64 z ∧ z + 1 = (F : Int) ∧ F ≤ xs.length ∧ OwnG wr w.heap.size (xs.length + 1) (bsT d a b xs F) ∧ Below w.heap.size w wr ∧ w.heap.size < wr.heap.size) (fun i _ _ _ _ => (intOf i + 1).toNat)
  case atStart => exact ⟨_, xs.length, rfl, by omega, Nat.le_refl _, ho1', hB1, hz1⟩
  case round =>
    obtain ⟨z, F, rfl, hzF, hF, ho, hB, hgs⟩ := hrel
    clear ho1' hB1 hz1
    by_cases hz : 0 ≤ z
    · obtain ⟨I, rfl⟩ : ∃ I : Nat, z = I := ⟨z.toNat, by omega⟩
      obtain rfl : F = I + 1 := by omega
      clear hzF hz
      have hI : I < xs.length := by omega
      have i1 : (I : Int) < (xs.length : Int) + 1 := by omega
      have e1 : ∃ y, wr.cell? ⟨w.heap.size, I, none⟩ = some y := by
        rw [ho.cellAt I (by omega)]
        exact ⟨_, List.getElem?_eq_getElem (by simp [bsT_len]; omega)⟩
      obtain ⟨y, e1⟩ := e1
      have e2 := ho.frozenAt I
      have ho2 := (ho.stored I (.int .i64 1099511627776)).1
      rw [← List.map_set] at ho2
      have hB2 := hB.setCell (p := ⟨w.heap.size, I, none⟩) (Nat.le_refl _) (.int .i64 1099511627776)
      have hgs2 : w.heap.size < (wr.setCell ⟨w.heap.size, I, none⟩ (.int .i64 1099511627776)).heap.size := by simpa [World.setCell] using hgs
      have HO : Hid (OwnG (wr.setCell ⟨w.heap.size, I, none⟩ (.int .i64 1099511627776)) w.heap.size (xs.length + 1) (bsI d a b xs I 0)) := ho2
      clear ho ho2 hB hgs
      go_wp2
      generalize wr.setCell ⟨w.heap.size, I, none⟩ (.int .i64 1099511627776) = W0 at *
      clear e1 e2
      go_loopw [11, 12, 13] (fun i _ _ W => ∃ c : Nat, i = .int .i64 c ∧ 1 ≤ c ∧ Hid (c - 1 ≤ lg (xs.drop I) d) ∧ I + c ≤ xs.length + 1 ∧ Hid (OwnG W w.heap.size (xs.length + 1) (bsI d a b xs I (c - 1)) ∧ Below w.heap.size w W ∧ w.heap.size < W.heap.size)) (fun i _ _ _ => xs.length + 1 - (intOf i).toNat)
      case atStart => exact ⟨1, rfl, by omega, (show 1 - 1 ≤ _ by omega), by omega, ⟨HO.out, hB2, hgs2⟩⟩
      case round =>
        obtain ⟨c, rfl, hc1, HL, hcn, HH⟩ := hrel
        clear HO hB2 hgs2
        have HLG : Hid ((∀ c, 1 ≤ c → c ≤ lg (xs.drop I) d → runB ((xs.drop I).take c) d = true) ∧ ∀ c, 1 ≤ c → c ≤ xs.length - I → runB ((xs.drop I).take c) d = true → c ≤ lg (xs.drop I) d) :=
          ⟨fun c h1 h2 => lg_run h1 h2, fun c h1 h2 h3 => lg_max (HS.out.drop I) h6 h1 (by simp; omega) h3⟩
        have HLE : Hid (lg (xs.drop I) d ≤ xs.length - I) := by
          have := lg_le (xs.drop I) d
          show _ ≤ _
          simpa using this
        have HNX : Hid (∀ W, lg (xs.drop I) d = c - 1 → OwnG W w.heap.size (xs.length + 1) (bsI d a b xs I (c - 1)) → OwnG W w.heap.size (xs.length + 1) (bsT d a b xs I)) := by
          intro W h1 h2
          rw [← h1, bsI_end hI] at h2
          exact h2
        by_cases hle : I + c ≤ xs.length
        · obtain ⟨A, g1, g2⟩ := sl_lh A0 xs.length cap I (I + c) (by omega) (by omega) hcc
          obtain ⟨ho, hB, hgs⟩ := HH.out
          have hr := g2 w xs rfl hv
          rw [take_drop_lh] at hr
          have q1 : I + c - I = c := by omega
          have q2 : ((I + c : Nat) : Int) = (I : Int) + (c : Int) := by push_cast; rfl
          rw [q1] at hr g1
          rw [q2] at g1
          have HC := hidd (c_l5Run _ ((xs.drop I).take c) d wr (hr.kept hB) (CapOk_of (by omega)) (by simp; omega))
          have hle' : (I : Int) + (c : Int) ≤ (xs.length : Int) := by omega
          clear g2 hr q1 q2 ho hB hgs
          cases hrb : runB ((xs.drop I).take c) d
          · have HN : Hid (lg (xs.drop I) d = c - 1) := by
              have h1 := HL.out
              show _ = _
              rcases Nat.lt_or_ge (lg (xs.drop I) d) c with h | h
              · omega
              · have := HLG.out.1 c hc1 h
                rw [hrb] at this; cases this
            rw [hrb] at HC
            clear hrb HL
            go_wp2_with fail
            refine HC.out.mono ?_
            rintro e w2 ⟨u, rfl, ho, hB2⟩
            have HO : Hid (OwnG w2 w.heap.size (xs.length + 1) (bsT d a b xs I) ∧ Below w.heap.size w w2 ∧ w.heap.size < w2.heap.size) := by
              obtain ⟨q1, q2, q3⟩ := HH.out
              exact ⟨HNX.out _ HN.out (ownsRow_kept_below q1 hB2), bthen q2 hB2, Nat.lt_of_lt_of_le q3 hB2.size⟩
            clear ho hB2 g1 HH
            go_wp2
            go_roundw
            case rel => exact ⟨_, I, rfl, by omega, by omega, HO.out.1, HO.out.2.1, HO.out.2.2⟩
            case measure => simp [intOf]
          · have hcl := HLG.out.2 c hc1 (by omega) hrb
            have hm := mn_max (gC d a b (xs.drop I)) (c - 1)
            have hbd := bs_bd (d := d) (a := a) (b := b) h0 h6 ⟨ha0, ha1⟩ ⟨hb0, hb1⟩ _ ((xs.drop I).drop c) (Nat.le_refl _) ((HS.out.drop I).drop c)
            have hl60' := ((HS.out.drop I).drop c).2
            have hmn : 0 ≤ mn (gC d a b (xs.drop I)) (c - 1) := mn_nn _ _ (fun e => (gC_bd h0 h6 ⟨ha0, ha1⟩ ⟨hb0, hb1⟩ (HS.out.drop I) e).1)
            have hrl := runL_len ((xs.drop I).take c) d
            have HNV : Hid (mn (gC d a b (xs.drop I)) (c - 1 + 1) = min (mn (gC d a b (xs.drop I)) (c - 1)) (a + b * ((runL ((xs.drop I).take c) d).length : Int) + bs d a b ((xs.drop I).drop c))) := by
              show _ = _
              rw [mn, show c - 1 + 1 = c by omega]; rfl
            obtain ⟨X, hX⟩ : ∃ X, mn (gC d a b (xs.drop I)) (c - 1) = X := ⟨_, rfl⟩
            obtain ⟨Y, hY⟩ : ∃ Y, bs d a b ((xs.drop I).drop c) = Y := ⟨_, rfl⟩
            have k1 : ∀ W, OwnG W w.heap.size (xs.length + 1) (bsI d a b xs I (c - 1)) → W.cell? ⟨w.heap.size, I, none⟩ = some (.int .i64 X) ∧ W.cell? ⟨w.heap.size, I + c, none⟩ = some (.int .i64 Y) ∧ W.frozen? ⟨w.heap.size, I, none⟩ = false := by
              intro W h
              refine ⟨?_, ?_, h.frozenAt I⟩
              · rw [h.cellAt I (by omega), ← hX, ← bsI_at0 (d := d) (a := a) (b := b) (m := c - 1) (show I ≤ xs.length by omega)]
                simp [List.getD, bsI_len, show I < xs.length + 1 by omega]
              · rw [h.cellAt (I + c) (by omega), ← hY, ← bsI_at (d := d) (a := a) (b := b) (m := c - 1) hc1 hle]
                simp [List.getD, bsI_len, show I + c < xs.length + 1 by omega]
            have HK1 := hidd k1
            rw [hX, hY] at HNV
            rw [hX] at hm hmn
            rw [hY] at hbd
            obtain ⟨P, hP⟩ : ∃ P, runL ((xs.drop I).take c) d = P := ⟨_, rfl⟩
            rw [hP] at hrl HC HNV
            rw [hrb] at HC
            have hp0 : 0 ≤ b * (P.length : Int) := Int.mul_nonneg hb0 (by omega)
            have hp1 : b * (P.length : Int) ≤ 1000 * 7 := Int.mul_le_mul hb1 (by omega) (by omega) (by omega)
            have HCL := hidd hcl
            have hY0 := hbd.1
            have hY1 : Y ≤ 480000 := by have := hbd.2; omega
            have j1 : (I : Int) + (c : Int) < (xs.length : Int) + 1 := by omega
            have j2 : ((I : Int) + (c : Int)).toNat = I + c := by omega
            have j3 : (0 : Int) ≤ (I : Int) + (c : Int) := by omega
            clear hrb HL hX hY hP k1 hbd hl60' hcl
            go_wp2_with fail
            refine HC.out.mono ?_
            rintro e w2 ⟨u, rfl, ho, hB2⟩
            obtain ⟨pa, pc, rfl⟩ := RdI_form (owns_RdI ho)
            have HH2 : Hid (OwnG w2 w.heap.size (xs.length + 1) (bsI d a b xs I (c - 1)) ∧ Below w.heap.size w w2 ∧ w.heap.size < w2.heap.size) := by
              obtain ⟨q1, q2, q3⟩ := HH.out
              exact ⟨ownsRow_kept_below q1 hB2, bthen q2 hB2, Nat.lt_of_lt_of_le q3 hB2.size⟩
            obtain ⟨e1, e2, e3⟩ := HK1.out w2 HH2.out.1
            clear ho hB2 g1 HH HC
            go_wp2
            go_region
            obtain ⟨V, hV⟩ : ∃ V, (if a + b * (P.length : Int) + Y < X then a + b * (P.length : Int) + Y else X) = V := ⟨_, rfl⟩
            rw [hV]
            have HO : Hid (OwnG (w2.setCell ⟨w.heap.size, I, none⟩ (.int .i64 V)).drew w.heap.size (xs.length + 1) (bsI d a b xs I (c + 1 - 1)) ∧ Below w.heap.size w (w2.setCell ⟨w.heap.size, I, none⟩ (.int .i64 V)).drew ∧ w.heap.size < (w2.setCell ⟨w.heap.size, I, none⟩ (.int .i64 V)).drew.heap.size) := by
              obtain ⟨q1, q2, q3⟩ := HH2.out
              refine ⟨?_, (q2.setCell (p := ⟨w.heap.size, I, none⟩) (Nat.le_refl _) _).drew, ?_⟩
              · have q := (q1.stored I (.int .i64 V)).1
                rw [← List.map_set, bsI_set d a b xs I (c - 1) V ?_] at q
                · rw [show c + 1 - 1 = c - 1 + 1 by omega]
                  exact q
                · rw [HNV.out, ← hV]
                  split <;> omega
              · simpa [World.setCell] using q3
            have HL2 : Hid (c + 1 - 1 ≤ lg (xs.drop I) d) := by
              have := HCL.out
              show _ ≤ _
              omega
            clear hV e1 e2 e3 HH2
            go_wp2
            go_roundw
            case rel => exact ⟨c + 1, by go_num, by omega, HL2, by omega, HO⟩
            case measure => simp [intOf]; omega
        · have HO : Hid (OwnG wr w.heap.size (xs.length + 1) (bsT d a b xs I) ∧ Below w.heap.size w wr ∧ w.heap.size < wr.heap.size) := by
            obtain ⟨q1, q2, q3⟩ := HH.out
            refine ⟨HNX.out _ ?_ q1, q2, q3⟩
            have h1 := HL.out
            have h2 := HLE.out
            show lg (xs.drop I) d = c - 1
            omega
          clear HH HL
          go_wp2
          go_roundw
          case rel => exact ⟨_, I, rfl, by omega, by omega, HO.out.1, HO.out.2.1, HO.out.2.2⟩
          case measure => (simp [intOf] <;> omega)
    · have hF0 : F = 0 := by omega
      have HF : Hid (FreshI w (bsT d a b xs 0) (.returned (.slice (some ⟨w.heap.size, 0, none⟩) (xs.length + 1) (xs.length + 1))) wr) := by
        rw [hF0] at ho
        refine ⟨_, rfl, ?_, hB⟩
        rw [bsT_len]; exact ho
      clear ho hB hv hF0
      go_wp2
      go_ret
      exact HF.out
end Go.Proofs.Ytkfejnifbkgihaa
