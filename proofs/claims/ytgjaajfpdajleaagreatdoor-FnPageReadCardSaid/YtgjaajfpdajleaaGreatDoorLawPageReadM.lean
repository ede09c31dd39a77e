/- FnPageRead: the entries of a page are read from its lines, and its sums add up to them. The tables that the card lists are tied to the program's text by the given tie. No condition. -/
import Derived.Test.YtgjaajfpdajleaaGreatDoorMPageReadRp5
import Derived.Test.YtgjaajfpdajleaaGreatDoorMPageReadRpP
import Derived.Test.YtgjaajfpdajleaaGreatDoorMPageReadNum0
import Derived.Test.YtgjaajfpdajleaaGreatDoorMPageReadBox3
import Derived.Test.YtgjaajfpdajleaaGreatDoorMPageReadDrawP
import Derived.Test.YtgjaajfpdajleaaGreatDoorMPageReadDeI
import Derived.Test.YtgjaajfpdajleaaGreatDoorMPageReadDeT
import Derived.Test.YtgjaajfpdajleaaGreatDoorTie
import Derived.Test.YtgjaajfpdajleaaGreatDoorCards
import Derived.LaidMore
import Derived.Lay
import Derived.LaidSub
import Derived.MakeChecks
import Derived.Stop.Joined
import Derived.SevenTiedAt
namespace Go.Proofs.YtgjaajfpdajleaaGreatDoor
set_option linter.unusedVariables false
open Go.ChangeShapes Go.WideShapes Go.ChangeAt Go.RowKit

/-- the lines of a page that is there -/
theorem plin0L {R A C s : Nat} {xs : List Int} {p : Int} (h : plinB R A C xs p = true) (hs : p * ((R : Int) * (A : Int)) = s) : pgLn xs C s R A (pgN xs.length s R) = plinS R A C xs p := by
  have h1 := plin_lay h
  have e : (p * ((R : Int) * (A : Int))).toNat = s := by rw [hs]; simp
  unfold plinB at h
  rw [h1, e, Int.toNat_natCast, Int.toNat_natCast, Int.toNat_natCast, Bool.true_and] at h
  unfold plinS
  rw [if_pos h1, e, Int.toNat_natCast, Int.toNat_natCast, Int.toNat_natCast]
  unfold pgeF
  rw [if_pos h]
theorem slice_map {b : Option Addr} {s n m : Nat} (h : n = m) (cap : Nat) : Value.slice (Option.map (fun x => x.add s) b) n cap = Value.slice (Option.map (fun x => x.add s) b) m cap := by rw [h]

set_option maxHeartbeats 4000000 in
set_option maxRecDepth 100000 in
theorem walk_FnPageRead (v : Value) (cs : List Int) {w : World} (hw : RdL w v (cs.map (Value.int .u8)) ∧ cs.length ≤ 9223372036854775807 ∧ (∀ n ∈ cs, (Lit.int .u8 n).wf = true) ∧ CapOk v) (htab : TabW w) (herr : ErrW w) (hmax : MaxW w) :
    Calls Tryz.prog 5 #[v] w fun e w' => e = .returned (.bool true) ∧ Below w.heap.size w w' := by
  obtain ⟨hR, hlen, hwf, hcap⟩ := hw
  have hR0 := hR
  obtain ⟨a, cap, rfl, hR1⟩ := hR0
  clear hR1 hmax
  have HT : Hid (TabW w ∧ ErrW w) := ⟨htab, herr⟩
  clear htab herr
  simp only [List.length_map] at hR hcap ⊢
  by_cases hbig : 1048576 < cs.length
  · clear hR hcap hwf
    go_enter Tryz.func5, Tryz.ntmps5
    go_wp2
    go_ret
    exact ⟨rfl, Below.refl _ _⟩
  · go_enter Tryz.func5, Tryz.ntmps5
    go_wp2_with fail
    refine (c_DrawPageLines _ cs w hR (by omega) hwf hcap).mono ?_
    rintro e w1 ⟨r, a, c, vv, xs, p, rfl, o_v, hx61, hA⟩
    clear hR hwf hcap
    obtain ⟨av, cv, rfl, hcv1, hcv2⟩ := own_cap o_v
    have hbx := Box3.new w1 r a c 27
    replace o_v := o_v.alloc (.cells #[(.int .i64 (r)), (.int .i64 (a)), (.int .i64 (c))] 27)
    replace hA := hA.alloc hA.size (.cells #[(.int .i64 (r)), (.int .i64 (a)), (.int .i64 (c))] 27)
    go_wp2_with fail
    refine (k_impl_PageLines2 r a c _ xs p _ (HT.out.1.below hA) o_v (by omega)).mono ?_
    rintro e w2 ⟨vl, rfl, o_l, hB⟩
    replace o_v := ownsRow_kept_below o_v hB
    replace hbx := hbx.kept hB
    replace hA := bthen hA hB
    obtain ⟨hp1, hp2⟩ := plinS_small r a c xs p
    obtain ⟨L, hL⟩ : ∃ L, plinS r a c xs p = L := ⟨_, rfl⟩
    obtain ⟨b, hb⟩ : ∃ b, plinB r a c xs p = b := ⟨_, rfl⟩
    rw [hL] at o_l hp1 hp2
    rw [hb]
    have HL : Hid (plinS r a c xs p = L ∧ plinB r a c xs p = b ∧ ∀ y ∈ L, y.size ≤ 78) := ⟨hL, hb, hp2⟩
    clear hB hL hb hp2
    obtain ⟨al, cl, rfl⟩ := OwnS_form3 o_l
    obtain ⟨k0, k1, k2, kb⟩ := hbx
    have HBx : Hid (Box3 w1.heap.size r a c w2) := ⟨k0, k1, k2, kb⟩
    go_wp2_with fail
    refine (c_spec_PageLines r a c _ xs p _ (owns_RdI o_v) (by omega)).mono ?_
    rintro e w3 ⟨vw, rfl, o_w, hB⟩
    rw [HL.out.1] at o_w
    rw [HL.out.2.1]
    replace o_v := ownsRow_kept_below o_v hB
    replace o_l := ownsRow_kept_below o_l hB
    replace HBx : Hid (Box3 w1.heap.size r a c w3) := HBx.out.kept hB
    replace hA := bthen hA hB
    clear hB k0 k1 k2 kb
    go_wp2_with fail
    refine (c_deTexts_t _ _ L _ (owns_RdS o_l) (owns_RdS o_w) (by omega)).mono ?_
    rintro e w4 ⟨rfl, hB⟩
    replace o_v := ownsRow_kept_below o_v hB
    replace o_l := ownsRow_kept_below o_l hB
    replace o_w := ownsRow_kept_below o_w hB
    have hbx := HBx.out.kept hB
    replace hA := bthen hA hB
    clear hB HBx
    cases hbb : b
    · subst hbb
      go_wp2_with fail
      refine (c_deTexts_t _ _ L _ (owns_RdS o_l) (owns_RdS o_w) (by omega)).mono ?_
      rintro e w5 ⟨rfl, hB⟩
      replace hA := bthen hA hB
      clear hB o_v o_l o_w hbx
      go_wp2
      go_ret
      exact ⟨rfl, hA⟩
    · subst hbb
      clear o_w
      have hpl := HL.out.2.1
      obtain ⟨g1, g2⟩ := page_read hpl
      rw [HL.out.1] at g1 g2
      have hrv : rpV r a c L = pgE xs (p * (r * a)).toNat (r * a).toNat := by unfold rpV; rw [g1, if_pos rfl, g2]
      have hpg := plin_lay hpl
      obtain ⟨hlay, htb, hp0, hpx⟩ := pgB_iff hpg
      obtain ⟨q3, q4, q5⟩ := tabB_iff htb
      obtain ⟨l1, l2, l3, l4, l5, l6, l7, l8⟩ := lay_mul hlay
      obtain ⟨R, A, C, rfl, rfl, rfl⟩ := lay_nat hlay
      obtain ⟨s, hs⟩ : ∃ s : Nat, p * ((R : Int) * (A : Int)) = s := ⟨(p * ((R : Int) * (A : Int))).toNat, by have := Int.mul_nonneg hp0 (show (0 : Int) ≤ (R : Int) * A by omega); omega⟩
      obtain ⟨M, hM⟩ : ∃ M : Nat, R * A = M := ⟨_, rfl⟩
      have hM2 : (R : Int) * (A : Int) = (M : Int) := by rw [← hM]; simp
      have hMn : ((R : Int) * (A : Int)).toNat = M := by rw [hM2]; simp
      have hsn : (p * ((R : Int) * (A : Int))).toNat = s := by rw [hs]; simp
      have m0 : 0 ≤ p * (R : Int) := Int.mul_nonneg hp0 (by omega)
      have m1 : p * (R : Int) * (A : Int) = (s : Int) := by rw [Int.mul_assoc]; exact hs
      have m2 : p * (R : Int) * 1 ≤ p * (R : Int) * (A : Int) := Int.mul_le_mul (Int.le_refl _) l3 (by omega) m0
      have hs60 : s < xs.length := by omega
      have m3 : p * (R : Int) ≤ 60 := by omega
      have hM120 : M ≤ 120 := by omega
      have hRM : R ≤ M := by rw [← hM]; exact Nat.le_mul_of_pos_right _ (by omega)
      have hpsl : pl R A C xs p = psL xs s R A := by unfold pl; rw [if_pos hpg, hsn]; rfl
      rw [hsn, hMn] at hrv
      obtain ⟨Tn, hTn⟩ : ∃ Tn, min (s + M) xs.length = Tn := ⟨_, rfl⟩
      have hmin : min ((s : Int) + (M : Int)) (xs.length : Int) = (Tn : Int) := by omega
      have hTs : s ≤ Tn := by omega
      have hTl : Tn ≤ xs.length := by omega
      have hLn : L.length = min R (Tn - s) := by
        have h1 := HL.out.1
        have e := (plin0L hpl hs).trans h1
        rw [← e, pgLn_len]
        unfold pgN
        omega
      have hE : pgE xs s M = (xs.drop s).take (Tn - s) := by
        unfold pgE
        rcases Nat.le_total (s + M) xs.length with h | h
        · rw [show Tn - s = M by omega]
        · rw [List.take_of_length_le (by rw [List.length_drop]; omega), List.take_of_length_le (by rw [List.length_drop]; omega)]
      have hEl : (pgE xs s M).length = Tn - s := by rw [pgE_len]; omega
      have hz0 : csum xs s (A * R) = csum xs s (Tn - s) := by
        rw [Nat.mul_comm A R, hM]
        by_cases h : s + M ≤ xs.length
        · rw [show Tn - s = M by omega]
        · exact csum_end (by omega) (by omega)
      have HP : Hid (rpB R A C L = true ∧ rpV R A C L = pgE xs s M ∧ pl R A C xs p = psL xs s R A ∧ L.length = min R (Tn - s) ∧ pgE xs s M = (xs.drop s).take (Tn - s) ∧ (pgE xs s M).length = Tn - s ∧ csum xs s (A * R) = csum xs s (Tn - s) ∧ allIn xs 1000000000 = true) := ⟨g1, hrv, hpsl, hLn, hE, hEl, hz0, q5⟩
      obtain ⟨k0, k1, k2, kb⟩ := hbx
      have HBx : Hid (Box3 w1.heap.size R A C w4) := ⟨k0, k1, k2, kb⟩
      clear hpl g1 g2 hrv hpg hpsl hLn hE hEl hz0 hs hM hMn hsn hTn q5 htb hlay hpx
      go_wp2_with fail
      refine (c_impl_ReadPage R A C _ L _ (HT.out.1.below hA) (HT.out.2.below hA) (owns_RdS o_l) (by omega) (fun y hy => by have := HL.out.2.2 y hy; omega)).mono ?_
      rw [HP.out.1, HP.out.2.1]
      rintro e w5 ⟨ve, rfl, o_e, hB⟩
      replace o_v := ownsRow_kept_below o_v hB
      replace HBx : Hid (Box3 w1.heap.size R A C w5) := HBx.out.kept hB
      replace hA := bthen hA hB
      clear hB k0 k1 k2 kb o_l
      obtain ⟨k0, k1, k2, kb⟩ := HBx.out
      go_wp2_with fail
      refine (k_impl_PageSums R A C _ xs p _ o_v (by omega)).mono ?_
      rw [HP.out.2.2.1]
      rintro e w6 ⟨vs, rfl, o_s, hB⟩
      replace o_v := ownsRow_kept_below o_v hB
      replace o_e := ownsRow_kept_below o_e hB
      replace HBx : Hid (Box3 w1.heap.size R A C w6) := HBx.out.kept hB
      replace hA := bthen hA hB
      obtain ⟨asl, cc, rfl⟩ := OwnI_form3 o_s
      clear hB k0 k1 k2 kb
      obtain ⟨k0, k1, k2, kb⟩ := HBx.out
      rw [psL_len] at o_s ⊢
      have hrs := owns_RdI o_s
      have hrv := owns_RdI o_v
      have HV : Hid (RdI w6 (.slice av xs.length cv) xs) := hrv
      have HSm : Hid (RdI w6 (.slice asl A cc) (psL xs s R A)) := hrs
      have HEe := Lib.hid o_e
      clear o_v o_s hrs hrv o_e
      go_wp2
      go_loop [15, 16] (fun t i => ∃ k : Nat, k ≤ A ∧ i = .int .i64 k ∧ t = .int .i64 (csum xs s (k * R))) (fun _ i => A - (intOf i).toNat)
      case atStart => exact ⟨0, by omega, rfl, by rw [Nat.zero_mul]; rfl⟩
      case round =>
        obtain ⟨k, hk, rfl, rfl⟩ := hrel
        by_cases hlt : k < A
        · obtain ⟨b1, o1, rfl, hb1, e1⟩ := RdI_cell HSm.out (Below.refl _ _) (show k < (psL xs s R A).length by rw [psL_len]; exact hlt)
          have hpa : (psL xs s R A).getD k 0 = csum xs (s + k * R) R := by simp [psL, List.getD, hlt]
          rw [hpa] at e1
          have hadd : csum xs s ((k + 1) * R) = csum xs s (k * R) + csum xs (s + k * R) R := by rw [Nat.add_mul, Nat.one_mul, csum_add]
          have hb2 := csum_bd HP.out.2.2.2.2.2.2.2 s (k * R)
          have hb3 := csum_bd HP.out.2.2.2.2.2.2.2 (s + k * R) R
          have hkR : k * R ≤ 6 * 20 := Nat.mul_le_mul (by omega) (by omega)
          obtain ⟨y1, hy1⟩ : ∃ y1, csum xs s (k * R) = y1 := ⟨_, rfl⟩
          obtain ⟨y2, hy2⟩ : ∃ y2, csum xs (s + k * R) R = y2 := ⟨_, rfl⟩
          rw [hy1, hy2] at hadd
          rw [hy1] at hb2 ⊢
          rw [hy2] at hb3 e1
          have z1 : -120000000000 ≤ y1 := by omega
          have z2 : y1 ≤ 120000000000 := by omega
          have z3 : -20000000000 ≤ y2 := by omega
          have z4 : y2 ≤ 20000000000 := by omega
          have HAD := Lib.hid hadd
          clear hadd hb2 hb3 hy1 hy2 hpa hkR
          go_wp2
          go_round
          case rel => exact ⟨k + 1, by omega, by go_num, by rw [HAD.out]⟩
          case measure => simp [intOf]; omega
        · obtain rfl : k = A := by omega
          have hb2 := csum_bd HP.out.2.2.2.2.2.2.2 s (k * R)
          have hkR : k * R ≤ 6 * 20 := Nat.mul_le_mul (by omega) (by omega)
          obtain ⟨Z, hZ⟩ : ∃ Z, csum xs s (k * R) = Z := ⟨_, rfl⟩
          have HZ : Hid (Z = csum xs s (Tn - s)) := by show _ = _; rw [← hZ]; exact HP.out.2.2.2.2.2.2.1
          rw [hZ] at hb2 ⊢
          have z1 : -120000000000 ≤ Z := by omega
          have z2 : Z ≤ 120000000000 := by omega
          clear hb2 hZ hkR hlt
          go_wp2
          go_loop [15, 17] (fun t i => ∃ j : Nat, j ≤ Tn - s ∧ i = .int .i64 ((s + j : Nat) : Int) ∧ t = .int .i64 (Z - csum xs s j)) (fun _ i => Tn - (intOf i).toNat)
          case atStart => exact ⟨0, by omega, rfl, by simp [csum]⟩
          case round =>
            obtain ⟨j, hj, rfl, rfl⟩ := hrel
            by_cases hjl : s + j < Tn
            · obtain ⟨b1, o1, rfl, hb1, e1⟩ := RdI_cell HV.out (Below.refl _ _) (show s + j < xs.length by omega)
              have hb2 := csum_bd HP.out.2.2.2.2.2.2.2 s j
              have hb3 := getD_bd HP.out.2.2.2.2.2.2.2 (s + j)
              have hadd : csum xs s (j + 1) = csum xs s j + xs.getD (s + j) 0 := rfl
              obtain ⟨y1, hy1⟩ : ∃ y1, csum xs s j = y1 := ⟨_, rfl⟩
              obtain ⟨y2, hy2⟩ : ∃ y2, xs.getD (s + j) 0 = y2 := ⟨_, rfl⟩
              obtain ⟨J, hJ⟩ : ∃ J, s + j = J := ⟨_, rfl⟩
              rw [hy1, hy2] at hadd
              rw [hy1] at hb2 ⊢
              rw [hy2] at hb3 e1
              rw [hJ] at e1 hjl ⊢
              have z5 : -60000000000 ≤ y1 := by omega
              have z6 : y1 ≤ 60000000000 := by omega
              obtain ⟨z3, z4⟩ := hb3
              have HAD := Lib.hid hadd
              have HJ := Lib.hid hJ
              clear hadd hb2 hy1 hy2 hJ
              have hJl : J < xs.length := by omega
              go_wp2
              go_round
              case rel => exact ⟨j + 1, by have := HJ.out; omega, by have := HJ.out; go_num, by rw [HAD.out]; go_num⟩
              case measure => simp [intOf]; omega
            · have hjT : s + j = Tn := by omega
              have HJZ : Hid (Z - csum xs s j = 0) := by
                show _ = _
                rw [HZ.out, show Tn - s = j by omega]
                omega
              rw [HJZ.out]
              have gx : ¬ (s : Int) + (j : Int) < (Tn : Int) := by omega
              clear hjl hj
              have i3 : (s : Int) ≤ (Tn : Int) := by omega
              have i4 : (Tn : Int) ≤ (cv : Int) := by omega
              have hsub : RdI w6 (.slice (av.map (fun x => x.add s)) (Tn - s) (cv - s)) ((xs.drop s).take (Tn - s)) := by
                by_cases h0 : 0 < Tn - s
                · exact HV.out.sub (by omega) h0
                · have e0 : Tn - s = 0 := by omega
                  rw [e0, List.take_zero]
                  exact RdI.nil _ _ _
              have hde := c_deInts ve (.slice (av.map (fun x => x.add s)) (Tn - s) (cv - s)) (pgE xs s M) ((xs.drop s).take (Tn - s)) w6 (owns_RdI HEe.out) hsub (by rw [HP.out.2.2.2.2.2.1]; omega) (by rw [List.length_take]; omega)
              rw [decide_eq_true HP.out.2.2.2.2.1] at hde
              have HLn : Hid (L.length = min R (Tn - s)) := HP.out.2.2.2.1
              have hmn : min (R : Int) ((Tn : Int) - (s : Int)) = (L.length : Int) := by have := HLn.out; omega
              have HDE := Lib.hid hde
              clear hsub hde hjT
              go_wp2_with fail
              refine HDE.out.mono ?_
              rintro e w7 ⟨rfl, hB⟩
              replace HBx : Hid (Box3 w1.heap.size R k C w7) := HBx.out.kept hB
              replace hA := bthen hA hB
              clear hB k0 k1 k2 kb
              obtain ⟨k0, k1, k2, kb⟩ := HBx.out
              go_wp2
              go_ret
              exact ⟨rfl, hA⟩

set_option maxRecDepth 100000 in
theorem lifted_FnPageRead (os : Os) (started : os.Started) (H : Type) (enc : TypeId × Value → H) :
    ReturnsInHanded {} Tryz.checked os 5 .any (fun w args => (Rows.fnPageReadSpec.pre enc Tryz.prog Tryz.f5 [] false w args ∧ laidMetH Tryz.prog Rows.fnPageReadRow.laid w) ∧ sizedMet enc Tryz.prog Tryz.f5 (OpenSpec.ofChange Rows.fnPageReadSpec) false w args)
      (Rows.fnPageReadSpec.post enc Tryz.prog Tryz.f5 false true false false) := by
  refine handed_shaped (C := Tryz.checked) (X := fun w _ => laidMetH Tryz.prog Rows.fnPageReadRow.laid w) (fun _ _ _ hh h => h.of_heap hh) own started (by kernel_rfl) Tryz.func5
    (ChangeSpec.witness_shaped (enc := enc) (C := Tryz.checked) (os := os) (X := fun w _ => laidMetH Tryz.prog Rows.fnPageReadRow.laid w) false (World.laidAll Tryz.prog os Rows.fnPageReadRow.laid) #[.slice none 0 0] 8 (World.laidAll_os _ _ _)
      (World.shaped_of_ZipB (by kernel_rfl) (by kernel_rfl)) (by kernel_rfl) (by kernel_rfl) (by kernel_rfl) (by rw [MakeChecks.laidMetH_plain _ _ _ (by kernel_rfl)]; exact laidMet_laidAll _ (by kernel_rfl) (by kernel_rfl))) ?_
  intro W base args ds gs before hval0 hW hL hsh
  have hval : ∀ (j : Nat) t v, Tryz.f5.params[j]? = some t → args[j]? = some v → Value.okWide Tryz.prog W .any base t v := hval0
  have htab : TabW W := TabW.of_laid (by kernel_rfl) hL
  have herr : ErrW W := ErrW.of_laid (by kernel_rfl) hL
  have hmax : MaxW W := MaxW.of_shaped hsh
  have hW' := hW
  obtain ⟨p, q, hA0, hV, rfl, hfz, hnd⟩ := hW
  have hA : DataW.TrodAll enc Tryz.prog W 0 (fun _ => true) true Tryz.f5.params.toList args.toList ds p := hA0
  rw [Tryz.params5] at hA hval
  obtain ⟨v0, vs0, d0, ds0, p0, q0, hargs, rfl, rfl, h0, r0⟩ := trodAll_cons hA
  obtain ⟨rfl, rfl, rfl⟩ := trodAll_nil r0
  obtain rfl : args = #[v0] := by cases args; simp_all
  obtain ⟨rfl, rfl⟩ := trodVars_none hV
  obtain ⟨l0, w0⟩ := open_bytes (hval 0 32 v0 rfl rfl) h0
  refine (walk_FnPageRead v0 l0 w0 htab herr hmax).mono fun e W' ⟨he, hg⟩ => ?_
  subst he
  exact ⟨_, rfl, law_post laidOut hW' rfl (by kernel_rfl) rfl Tryz.underlying4 rfl rfl rfl rfl hg⟩
theorem factA_FnPageRead : factsA Tryz.prog 5 Tryz.f5 Rows.fnPageReadSpec Rows.fnPageReadRow = true := by kernel_rfl
theorem fact9_FnPageRead : (Rows.fnPageReadRow.inPlace == Tryz.prog.inPlace 5) = true := by kernel_rfl
theorem fact10_FnPageRead : (Rows.fnPageReadRow.unfollowed == Tryz.prog.unfollowed 5) = true := by kernel_rfl
theorem fact11_FnPageRead : (Rows.fnPageReadRow.recurses == Tryz.prog.recurses 5) = true := by kernel_rfl
theorem fact12_FnPageRead : (Rows.fnPageReadRow.named == Tryz.prog.varsNamed 5) = true := by kernel_rfl
theorem factB_FnPageRead : factsB Tryz.prog 5 Tryz.f5 Rows.fnPageReadSpec Rows.fnPageReadRow = true := by kernel_rfl
theorem factN_FnPageRead : Tryz.prog.funcNamed Rows.fnPageReadRow.func = some 5 := by kernel_rfl
theorem proved_FnPageRead : Rows.FnPageReadSaid :=
  OpenClaim.holds_of_wide 5 Tryz.f5 rfl rfl rfl rfl rfl rfl rfl ⟨rfl, rfl, rfl, rfl, rfl⟩ rfl rfl rfl rfl rfl factN_FnPageRead Tryz.func5 (closed_of factA_FnPageRead fact9_FnPageRead fact10_FnPageRead fact11_FnPageRead fact12_FnPageRead factB_FnPageRead rfl rfl rfl)
    (of_decide_eq_true (by kernel_rfl)) (by unfold Func.isWrapper; first | (rw [if_pos (by decide +kernel)]; kernel_rfl) | (rw [if_neg (by decide +kernel)]; exact ⟨rfl, rfl⟩))
    (fun os started H enc _ => lifted_FnPageRead os started H enc)
theorem card_FnPageRead : Rows.FnPageReadCardSaid :=
  Claim7.holds_tied_plain_at .later [] [.data, .data, .data, .data, .sentinel, .sentinel, .pinned] true (true, "730894ce3fdd1c60b1cd13fd3d8d0eaff75b6a36daf9ceb74fd76b5c933006d2") true
    proved_FnPageRead (fun _ h => by cases h) (by kernel_rfl) (fun _ h => by cases h) fnPageRead_row_tie rfl ⟨rfl, rfl⟩ (by kernel_rfl) rfl
    (fun f fn hf hfn => by
      obtain rfl : f = 5 := Option.some.inj (factN_FnPageRead.symm.trans hf) |>.symm
      obtain rfl : fn = Tryz.f5 := (Option.some.inj (Tryz.func5.symm.trans hfn)).symm
      exact ⟨by kernel_rfl, fun j t ht => by
        rw [Tryz.params5] at ht
        have hm : t ∈ [32] := by simpa using Array.mem_of_getElem? ht
        have hall : ([32].all fun u => !Tryz.prog.wantsStandIn u) = true := by kernel_rfl
        exact (show Tryz.prog.wantsStandIn t = false by simpa using List.all_eq_true.1 hall t hm)⟩)
    (by kernel_rfl)
end Go.Proofs.YtgjaajfpdajleaaGreatDoor
