/- FnWholeSheet: a table that is rounded, printed page by page, plated and read back has no errata, and each entry is within the bound of its number. The tables that the card lists are tied to the program's text by the given tie. No condition. -/
import Derived.Test.YtdgnhplaakjlgaaGreatDoorMWholeSheetRp5
import Derived.Test.YtdgnhplaakjlgaaGreatDoorMWholeSheetRSt2
import Derived.Test.YtdgnhplaakjlgaaGreatDoorMWholeSheetEnt
import Derived.Test.YtdgnhplaakjlgaaGreatDoorMWholeSheetWsP
import Derived.Test.YtdgnhplaakjlgaaGreatDoorMWholeSheetErrt
import Derived.Test.YtdgnhplaakjlgaaGreatDoorMWholeSheetNumF
import Derived.Test.YtdgnhplaakjlgaaGreatDoorMWholeSheetBox3
import Derived.Test.YtdgnhplaakjlgaaGreatDoorMWholeSheetDeI
import Derived.Test.YtdgnhplaakjlgaaGreatDoorMWholeSheetAppN
import Derived.Test.YtdgnhplaakjlgaaGreatDoorTie
import Derived.Test.YtdgnhplaakjlgaaGreatDoorCards
import Derived.LaidMore
import Derived.Lay
import Derived.LaidSub
import Derived.MakeChecks
import Derived.Stop.Joined
import Derived.SevenTiedAt
namespace Go.Proofs.YtdgnhplaakjlgaaGreatDoor
set_option linter.unusedVariables false
open Go.ChangeShapes Go.WideShapes Go.ChangeAt Go.RowKit

theorem ints_N {w : World} {u : Value} {xs : List Int} (h : RdI w u xs) : RdN w 1 u xs.length (xs.map (Value.int .i64)) := by
  have := RdN_of_RdL h
  rwa [List.length_map] at this
theorem ints_app {w : World} {base : Nat} {v : Value} {xs ys : List Int} (h : w.ownsRow base 3 1 v (xs.length + ys.length) (xs.map (Value.int .i64) ++ ys.map (Value.int .i64))) : OwnI w base v (xs ++ ys) := by
  unfold OwnI; simpa using h
set_option maxHeartbeats 4000000 in
set_option maxRecDepth 100000 in
theorem walk_FnWholeSheet (v : Value) (cs : List Int) {w : World} (hw : RdL w v (cs.map (Value.int .u8)) ∧ cs.length ≤ 9223372036854775807 ∧ (∀ n ∈ cs, (Lit.int .u8 n).wf = true) ∧ CapOk v) (v2 : Value) (ms : List Int) (hw2 : RdL w v2 (ms.map (Value.int .u8)) ∧ ms.length ≤ 9223372036854775807 ∧ (∀ n ∈ ms, (Lit.int .u8 n).wf = true) ∧ CapOk v2) (htab : TabW w) (herr : ErrW w) (hmax : MaxW w) :
    Calls Tryz.prog 4 #[v, v2] w fun e w' => e = .returned (.bool true) ∧ Below w.heap.size w w' := by
  obtain ⟨hR, hlen, hwf, hcap⟩ := hw
  obtain ⟨hR2, hlen2, _, _⟩ := hw2
  have hR0 := hR
  obtain ⟨a, cap, rfl, hR1⟩ := hR0
  obtain ⟨a2, cap2, rfl, hR21⟩ := hR2
  clear hR1 hR21 hmax
  have HT : Hid (TabW w ∧ ErrW w) := ⟨htab, herr⟩
  clear htab herr
  simp only [List.length_map] at hR hcap ⊢
  obtain ⟨m, hm⟩ : ∃ m, ms.length = m := ⟨_, rfl⟩
  rw [hm] at hlen2 ⊢
  clear hm
  by_cases hbig : 1048576 < cs.length
  · clear hR hcap hwf
    go_enter Tryz.func4, Tryz.ntmps4
    go_wp2
    go_ret
    exact ⟨rfl, Below.refl _ _⟩
  by_cases hbig2 : 1048576 < m
  · clear hR hcap hwf
    go_enter Tryz.func4, Tryz.ntmps4
    go_wp2
    go_ret
    exact ⟨rfl, Below.refl _ _⟩
  · go_enter Tryz.func4, Tryz.ntmps4
    go_wp2_with fail
    refine (c_DrawRoundTable _ cs w hR (by omega) hwf hcap).mono ?_
    rintro e w1 ⟨vv, xs, d, way, rfl, o_v, hx61, ⟨hd1, hd2⟩, ⟨hw1, hw2⟩, hA⟩
    clear hR hwf hcap
    go_wp2_with fail
    refine (c_impl_RoundTable _ xs d way _ (owns_RdI o_v) (by omega)).mono ?_
    rintro e w2 ⟨vl, rfl, o_l, hB⟩
    replace o_v := ownsRow_kept_below o_v hB
    replace hA := bthen hA hB
    clear hB
    go_wp2_with fail
    refine (c_spec_RoundTable _ xs d way _ (owns_RdI o_v) (by omega)).mono ?_
    rintro e w3 ⟨vs, rfl, o_s, hB⟩
    replace o_v := ownsRow_kept_below o_v hB
    replace o_l := ownsRow_kept_below o_l hB
    replace hA := bthen hA hB
    clear hB
    have hrl := rtL_len xs d way
    obtain ⟨av, cv, rfl⟩ := OwnI_form3 o_v
    obtain ⟨al, cl, rfl⟩ := OwnI_form3 o_l
    cases hv : rtB xs d way
    · clear hv
      go_wp2_with fail
      refine (k_de_ints _ _ _ _ (rtL xs d way) _ o_l o_s (by omega)).mono ?_
      rintro e w4 ⟨rfl, hB⟩
      replace o_l := ownsRow_kept_below o_l hB
      replace o_s := ownsRow_kept_below o_s hB
      replace hA := bthen hA hB
      clear hB
      go_wp2_with fail
      refine (k_de_ints _ _ _ _ (rtL xs d way) _ o_l o_s (by omega)).mono ?_
      rintro e w5 ⟨rfl, hB⟩
      replace hA := bthen hA hB
      clear hB o_v o_l o_s
      go_wp2
      go_ret
      exact ⟨rfl, hA⟩
    · obtain ⟨q1, q2⟩ := rtB_iff hv
      obtain ⟨q3, q4, q5⟩ := tabB_iff q1
      obtain ⟨d0, d6, w0, w2'⟩ := wayB_iff q2
      obtain ⟨n, rfl⟩ : ∃ n : Nat, d = n := ⟨d.toNat, by omega⟩
      have ht := rtL_tab hv
      have hll : (rtL xs n way).length = xs.length := by
        have E : rtL xs n way = xs.map (fun x => rnd x n way) := if_pos hv
        rw [E, List.length_map]
      have HER : Hid (∀ k, k < xs.length → ∃ y m t p b : Int, xs.getD k 0 = y ∧ (rtL xs n way).getD k 0 = m ∧ ten n = p ∧ errR xs n way = b ∧ m * p = t ∧ -1000000000 ≤ y ∧ y ≤ 1000000000 ∧ -1000000000 ≤ m ∧ m ≤ 1000000000 ∧ 1 ≤ p ∧ p ≤ 1000000 ∧ -2000000000000000 ≤ t ∧ t ≤ 2000000000000000 ∧ 0 ≤ b ∧ b ≤ 2001000000 ∧ t - y ≤ b ∧ -(t - y) ≤ b) := fun k hk => sheet_err hv hk (by omega)
      obtain ⟨L, hL⟩ : ∃ L, rtL xs n way = L := ⟨_, rfl⟩
      rw [hL] at HER ht hll hrl o_l o_s ⊢
      have HLT : Hid (tabB L = true) := ht
      have HLL : Hid (L.length = xs.length) := hll
      rw [hll] at hrl o_l ⊢
      have o_l2 : OwnI w3 w1.heap.size (.slice al xs.length cl) L := by unfold OwnI; rw [hll]; exact o_l
      clear hL ht hll hv q1 q2 q5 o_l
      go_wp2_with fail
      refine (k_de_ints _ _ _ _ L _ o_l2 o_s (by rw [HLL.out]; omega)).mono ?_
      rintro e w4 ⟨rfl, hB⟩
      replace o_v := ownsRow_kept_below o_v hB
      have o_l := ownsRow_kept_below o_l2 hB
      replace hA := bthen hA hB
      clear hB o_s o_l2
      obtain ⟨R, hRR⟩ : ∃ R : Nat, 1 + (m : Int) % 7 = R := ⟨1 + m % 7, by simp⟩
      obtain ⟨A, hAA⟩ : ∃ A : Nat, 1 + (m : Int) / 7 % 4 = A := ⟨1 + m / 7 % 4, by simp⟩
      have hm4 : (m : Int) / 7 ≤ 1048576 := by omega
      have r1 : 1 ≤ R ∧ R ≤ 7 := by omega
      have a1 : 1 ≤ A ∧ A ≤ 4 := by omega
      have hlay : layB R A 11 = true := by unfold layB; exact decide_eq_true (by omega)
      have hpt : ptV R A 11 L = true := by unfold ptV; rw [hlay, HLT.out]; rfl
      obtain ⟨hN1, hN2⟩ := ptN_bd hpt
      have hsp := fun q (hq : q < ptN R A 11 L) => sheet_page hlay HLT.out hq
      have hall := sheet_all hlay HLT.out
      obtain ⟨N, hN⟩ : ∃ N, ptN R A 11 L = N := ⟨_, rfl⟩
      obtain ⟨M, hM⟩ : ∃ M, R * A = M := ⟨_, rfl⟩
      rw [hN] at hN1 hN2 hsp hall
      rw [hM] at hsp hall
      rw [HLL.out] at hN1
      have HS : Hid (∀ q, q < N → plinB R A 11 L (q : Int) = true ∧ rsB (plateF (plinS R A 11 L (q : Int))) = true ∧ rsF (plateF (plinS R A 11 L (q : Int))) = plinS R A 11 L (q : Int) ∧
        rpB R A 11 (plinS R A 11 L (q : Int)) = true ∧ rpV R A 11 (plinS R A 11 L (q : Int)) = pgE L (q * M) M ∧ L.take ((q + 1) * M) = L.take (q * M) ++ pgE L (q * M) M) := hsp
      have HE : Hid (L.take (N * M) = L) := hall
      have HN : Hid (pnF R A 11 (xs.length : Int) = (N : Int)) := hN1
      have hbx := Box3.new w4 R A 11 24
      have hal : Below w4.heap.size w4 (w4.alloc (.cells #[(.int .i64 ((R : Int))), (.int .i64 ((A : Int))), (.int .i64 (11))] 24)) := (Below.refl _ _).alloc (Nat.le_refl _) _
      replace o_v := ownsRow_kept_below o_v hal
      replace o_l := ownsRow_kept_below o_l hal
      replace hA := bthen hA hal
      go_wp2_with fail
      obtain ⟨w5, hw5⟩ : ∃ w5, w4.alloc (.cells #[(.int .i64 ((R : Int))), (.int .i64 ((A : Int))), (.int .i64 (11))] 24) = w5 := ⟨_, rfl⟩
      have hs5 : w4.heap.size + 1 = w5.heap.size := by rw [← hw5]; simp
      rw [hw5] at hbx o_v o_l hA ⊢
      rw [hs5]
      obtain ⟨c, hc⟩ : ∃ c, w4.heap.size = c := ⟨_, rfl⟩
      rw [hc] at hbx ⊢
      have ho0 : OwnI (w5.alloc (.cells #[] 3)) w5.heap.size (.slice (some ⟨w5.heap.size, 0, none⟩) 0 0) (L.take (0 * M)) := by
        rw [Nat.zero_mul, List.take_zero]
        exact World.ownsRow_made w5 #[] 0 (Nat.le_refl _) (by decide) rfl
      have hB0 : Below w5.heap.size w5 (w5.alloc (.cells #[] 3)) := (Below.refl _ _).alloc (Nat.le_refl _) _
      have o_l2 : OwnI w5 w1.heap.size (.slice al xs.length cl) L := o_l
      have HB5 : Hid (w5.ownsRow w.heap.size 3 1 (.slice av xs.length cv) xs.length (xs.map (Value.int .i64)) ∧ OwnI w5 w1.heap.size (.slice al xs.length cl) L ∧ Box3 c R A 11 w5 ∧ Below w.heap.size w w5) := ⟨o_v, o_l2, hbx, hA⟩
      have HLE : Hid (∀ k, (L.take k).length ≤ 60) := fun k => by have := HLL.out; rw [List.length_take]; omega
      clear o_v o_l o_l2 hbx hA hal hw5 hs5 hc hRR hAA hm4 hlay hpt hN1 hsp hall hN hM
      go_loopw [13, 14] (fun u i wr => ∃ q : Nat, q ≤ N ∧ i = .int .i64 q ∧ OwnI wr w5.heap.size u (L.take (q * M)) ∧ Below w5.heap.size w5 wr) (fun _ i _ => N - (intOf i).toNat)
      case atStart => exact ⟨0, by omega, rfl, ho0, hB0⟩
      case round =>
        obtain ⟨q, hq, rfl, ho, hB⟩ := hrel
        clear ho0 hB0
        obtain ⟨o_v, o_l, hbx, hA⟩ := HB5.out
        replace o_v := ownsRow_kept_below o_v hB
        replace o_l := ownsRow_kept_below o_l hB
        replace hA := bthen hA hB
        replace hbx := hbx.kept hB
        obtain ⟨k0, k1, k2, kb⟩ := hbx
        have HBx : Hid (Box3 c R A 11 wr) := ⟨k0, k1, k2, kb⟩
        by_cases hlt : q < N
        · obtain ⟨s1, s2, s3, s4, s5, s6⟩ := HS.out q hlt
          go_wp2_with fail
          refine (c_impl_PagesNeeded R A 11 xs.length _).mono ?_
          rw [HN.out]
          rintro e w6 ⟨rfl, hC⟩
          replace ho := ownsRow_kept_below ho hC
          replace o_l := ownsRow_kept_below o_l hC
          replace hA := bthen hA hC
          replace hB := bthen hB hC
          replace HBx : Hid (Box3 c R A 11 w6) := HBx.out.kept hC
          clear hC k0 k1 k2 kb
          obtain ⟨k0, k1, k2, kb⟩ := HBx.out
          obtain ⟨hp1, hp2⟩ := plinS_small R A 11 L (q : Int)
          obtain ⟨P, hP⟩ : ∃ P, plinS R A 11 L (q : Int) = P := ⟨_, rfl⟩
          have hcl := k_impl_PageLines2 R A 11 (.slice al xs.length cl) L q w6 (HT.out.1.below hA) o_l (by rw [HLL.out]; omega)
          rw [hP] at hp1 hp2 s2 s3 s4 s5 hcl
          rw [s1] at hcl
          have HP : Hid (rsB (plateF P) = true ∧ rsF (plateF P) = P ∧ rpB R A 11 P = true ∧ rpV R A 11 P = pgE L (q * M) M ∧ L.take ((q + 1) * M) = L.take (q * M) ++ pgE L (q * M) M ∧ P.length ≤ 20 ∧ (∀ y ∈ P, y.size ≤ 78)) := ⟨s2, s3, s4, s5, s6, hp1, hp2⟩
          clear s1 s2 s3 s4 s5 s6 hp1 hp2 hP
          go_wp2_with fail
          refine hcl.mono ?_
          rintro e w7 ⟨vp, rfl, o_p, hC⟩
          replace ho := ownsRow_kept_below ho hC
          replace hA := bthen hA hC
          replace hB := bthen hB hC
          replace HBx : Hid (Box3 c R A 11 w7) := HBx.out.kept hC
          clear hC k0 k1 k2 kb hcl o_l
          go_wp2_with fail
          refine (c_impl_StereotypeOf _ P _ (owns_RdS o_p) (by have := HP.out.2.2.2.2.2.1; omega) (fun y hy => by have := HP.out.2.2.2.2.2.2 y hy; omega)).mono ?_
          rintro e w8 ⟨vt, rfl, o_t, hC⟩
          replace ho := ownsRow_kept_below ho hC
          replace hA := bthen hA hC
          replace hB := bthen hB hC
          replace HBx : Hid (Box3 c R A 11 w8) := HBx.out.kept hC
          clear hC o_p
          go_wp2_with fail
          refine (c_impl_ReadStereotype _ (plateF P) _ (owns_RdS o_t) (by have := plateF_len P; omega) (fun y hy => by have := plate_small HP.out.2.2.2.2.2.2 y hy; omega)).mono ?_
          rw [HP.out.1, HP.out.2.1]
          rintro e w9 ⟨vq, rfl, o_q, hC⟩
          replace ho := ownsRow_kept_below ho hC
          replace hA := bthen hA hC
          replace hB := bthen hB hC
          replace HBx : Hid (Box3 c R A 11 w9) := HBx.out.kept hC
          clear hC o_t
          obtain ⟨k0, k1, k2, kb⟩ := HBx.out
          go_wp2_with fail
          refine (c_impl_ReadPage R A 11 _ P _ (HT.out.1.below hA) (HT.out.2.below hA) (owns_RdS o_q) (by have := HP.out.2.2.2.2.2.1; omega) (fun y hy => by have := HP.out.2.2.2.2.2.2 y hy; omega)).mono ?_
          rw [HP.out.2.2.1, HP.out.2.2.2.1]
          rintro e w10 ⟨ve, rfl, o_e, hC⟩
          replace ho := ownsRow_kept_below ho hC
          replace hA := bthen hA hC
          replace hB := bthen hB hC
          clear hC o_q k0 k1 k2 kb HBx
          have hrn := ints_N (owns_RdI o_e)
          have hel : (pgE L (q * M) M).length ≤ 60 := by rw [pgE_len]; have := HLL.out; omega
          have hol := HLE.out (q * M)
          obtain ⟨T, hT⟩ : ∃ T, L.take (q * M) = T := ⟨_, rfl⟩
          rw [hT] at ho hol
          have HTT := Lib.hid hT
          clear hT
          go_wp2_with (at_builtin; refine appN 28 3 Tryz.underlying28 infoInt rfl (by decide) (by decide) rfl _ _ rfl w5.heap.size _ _ _ rfl ho _ _ _ rfl hrn (one_ints _) ?c1 ?c2 ?_)
          case c1 => omega
          case c2 => exact hB.size
          intro v' w11 ho2 hg _
          have HO : Hid (OwnI w11 w5.heap.size v' (L.take ((q + 1) * M)) ∧ Below w5.heap.size w5 w11) := ⟨by rw [HP.out.2.2.2.2.1, HTT.out]; exact ints_app ho2, hB.grown hg hB.size (fun j hj => (ho.lt j hj).1)⟩
          clear ho ho2 hg hrn hA hB hel hol
          go_wp2
          go_roundw
          case rel => exact ⟨q + 1, by omega, by go_num, HO.out.1, HO.out.2⟩
          case measure => simp [intOf]; omega
        · have hqN : q = N := by omega
          rw [hqN, HE.out] at ho
          go_wp2_with fail
          refine (c_impl_PagesNeeded R A 11 xs.length _).mono ?_
          rw [HN.out]
          rintro e w6 ⟨rfl, hC⟩
          replace ho := ownsRow_kept_below ho hC
          replace o_l := ownsRow_kept_below o_l hC
          replace o_v := ownsRow_kept_below o_v hC
          replace hA := bthen hA hC
          clear hC k0 k1 k2 kb HBx hB
          obtain ⟨au, cu, rfl⟩ := OwnI_form3 ho
          rw [HLL.out] at ho ⊢
          have ho1 : OwnI w6 w5.heap.size (.slice au xs.length cu) L := by unfold OwnI; rw [HLL.out]; exact ho
          have o_l1 : OwnI w6 w1.heap.size (.slice al xs.length cl) L := o_l
          clear ho o_l
          go_wp2_with fail
          refine (c_ErrataOf_same _ _ L _ (owns_RdI o_l1) (owns_RdI ho1) (by rw [HLL.out]; omega) HLT.out).mono ?_
          rintro e w7 ⟨rfl, hC⟩
          have ho := ownsRow_kept_below ho1 hC
          replace o_v := ownsRow_kept_below o_v hC
          replace hA := bthen hA hC
          clear hC ho1 o_l1
          go_wp2_with fail
          refine (c_impl_RoundError _ xs n way _ (owns_RdI o_v) (by omega)).mono ?_
          obtain ⟨b, hb⟩ : ∃ b, errR xs n way = b := ⟨_, rfl⟩
          rw [hb] at HER ⊢
          rintro e w8 ⟨rfl, hC⟩
          replace ho := ownsRow_kept_below ho hC
          replace o_v := ownsRow_kept_below o_v hC
          replace hA := bthen hA hC
          have hrv : RdI w8 _ xs := owns_RdI o_v
          have hru : RdI w8 (.slice au xs.length cu) L := owns_RdI ho
          clear hC o_v ho hb
          have hn17 : n ≤ 17 := by omega
          go_wp2_with fail
          go_loopw [24] (fun i wx => ∃ k : Nat, k ≤ xs.length ∧ i = .int .i64 k ∧ Below w8.heap.size w8 wx) (fun i _ => xs.length - (intOf i).toNat)
          case atStart => exact ⟨0, by omega, rfl, Below.refl _ _⟩
          case round =>
            obtain ⟨k, hk, rfl, hB⟩ := hrel
            by_cases hkl : k < xs.length
            · obtain ⟨y, mm, t, p, b', e1, e2, e3, e4, e5, g1, g2, g3, g4, g5, g6, g7, g8, g9, g10, g11, g12⟩ := HER.out k hkl
              subst e4
              obtain ⟨b1, o1, rfl, hb1, c1⟩ := RdI_cell hru hB (show k < L.length by rw [HLL.out]; exact hkl)
              obtain ⟨b2, o2, rfl, hb2, c2⟩ := RdI_cell hrv hB hkl
              rw [e2] at c1
              rw [e1] at c2
              have HP : Hid (ten n = p) := e3
              obtain ⟨dd, hdd⟩ : ∃ dd, t - y = dd := ⟨_, rfl⟩
              rw [hdd] at g11 g12
              have d1 : -4000000000000000 ≤ dd := by omega
              have d2 : dd ≤ 4000000000000000 := by omega
              have hwm : IntKind.i64.wrap (mm * p) = t := by rw [e5]; exact IntWalk.i64_in _ (by omega)
              have hws : IntKind.i64.wrap (t - y) = dd := by rw [hdd]; exact IntWalk.i64_in _ (by omega)
              have hwn : IntKind.i64.wrap (-dd) = -dd := IntWalk.i64_in _ (by omega)
              have hx1 : (b < dd) = False := eq_false (by omega)
              have hx2 : (b < -dd) = False := eq_false (by omega)
              have HH : Hid (k ≤ xs.length ∧ Below w.heap.size w w8) := ⟨hk, hA⟩
              have hS : Below w8.heap.size w8 wr.drew ∧ wr.drew.cell? ⟨b1, o1 + k, none⟩ = some (.int .i64 (mm)) ∧ wr.drew.cell? ⟨b2, o2 + k, none⟩ = some (.int .i64 (y)) := ⟨hB.drew, c1, c2⟩
              have HSS := Lib.hid hS
              clear e1 e2 e3 e5 hru hrv hdd g11 g12 hA hB hS
              go_wp2
              go_region_held3 (fun wx => Below w8.heap.size w8 wx ∧ wx.cell? ⟨b1, o1 + k, none⟩ = some (.int .i64 (mm)) ∧ wx.cell? ⟨b2, o2 + k, none⟩ = some (.int .i64 (y))) (first | assumption | exact HSS.out) (first | (go_at_call 19; refine (c_deTen n _ hn17).mono ?_; rw [HP.out]; rintro e w' ⟨rfl, rfl⟩))
              rename_i hS2
              have HS2 := Lib.hid hS2
              clear hS2 c1 c2
              go_wp2
              go_roundw
              case rel => exact ⟨k + 1, by omega, by go_num, HS2.out.1⟩
              case measure => simp [intOf]; omega
            · have hF := bthen hA hB
              clear hA hB hru hrv
              go_wp2
              go_ret
              exact ⟨by simp, hF⟩
set_option maxRecDepth 100000 in
theorem lifted_FnWholeSheet (os : Os) (started : os.Started) (H : Type) (enc : TypeId × Value → H) :
    ReturnsInHanded {} Tryz.checked os 4 .any (fun w args => (Rows.fnWholeSheetSpec.pre enc Tryz.prog Tryz.f4 [] false w args ∧ laidMetH Tryz.prog Rows.fnWholeSheetRow.laid w) ∧ sizedMet enc Tryz.prog Tryz.f4 (OpenSpec.ofChange Rows.fnWholeSheetSpec) false w args)
      (Rows.fnWholeSheetSpec.post enc Tryz.prog Tryz.f4 false true false false) := by
  refine handed_shaped (C := Tryz.checked) (X := fun w _ => laidMetH Tryz.prog Rows.fnWholeSheetRow.laid w) (fun _ _ _ hh h => h.of_heap hh) own started (by kernel_rfl) Tryz.func4
    (ChangeSpec.witness_shaped (enc := enc) (C := Tryz.checked) (os := os) (X := fun w _ => laidMetH Tryz.prog Rows.fnWholeSheetRow.laid w) false (World.laidAll Tryz.prog os Rows.fnWholeSheetRow.laid) #[.slice none 0 0, .slice none 0 0] 8 (World.laidAll_os _ _ _)
      (World.shaped_of_ZipB (by kernel_rfl) (by kernel_rfl)) (by kernel_rfl) (by kernel_rfl) (by kernel_rfl) (by rw [MakeChecks.laidMetH_plain _ _ _ (by kernel_rfl)]; exact laidMet_laidAll _ (by kernel_rfl) (by kernel_rfl))) ?_
  intro W base args ds gs before hval0 hW hL hsh
  have hval : ∀ (j : Nat) t v, Tryz.f4.params[j]? = some t → args[j]? = some v → Value.okWide Tryz.prog W .any base t v := hval0
  have htab : TabW W := TabW.of_laid (by kernel_rfl) hL
  have herr : ErrW W := ErrW.of_laid (by kernel_rfl) hL
  have hmax : MaxW W := MaxW.of_shaped hsh
  have hW' := hW
  obtain ⟨p, q, hA0, hV, rfl, hfz, hnd⟩ := hW
  have hA : DataW.TrodAll enc Tryz.prog W 0 (fun _ => true) true Tryz.f4.params.toList args.toList ds p := hA0
  rw [Tryz.params4] at hA hval
  obtain ⟨v0, vs0, d0, ds0, p0, q0, hargs, rfl, rfl, h0, r0⟩ := trodAll_cons hA
  obtain ⟨v1, vs1, d1, ds1, p1, q1, rfl, rfl, rfl, h1, r1⟩ := trodAll_cons r0
  obtain ⟨rfl, rfl, rfl⟩ := trodAll_nil r1
  obtain rfl : args = #[v0, v1] := by cases args; simp_all
  obtain ⟨rfl, rfl⟩ := trodVars_none hV
  obtain ⟨l0, w0⟩ := open_bytes (hval 0 22 v0 rfl rfl) h0
  obtain ⟨l1, w1⟩ := open_bytes (hval 1 22 v1 rfl rfl) h1
  refine (walk_FnWholeSheet v0 l0 w0 v1 l1 w1 htab herr hmax).mono fun e W' ⟨he, hg⟩ => ?_
  subst he
  exact ⟨_, rfl, law_post laidOut hW' rfl (by kernel_rfl) rfl Tryz.underlying4 rfl rfl rfl rfl hg⟩
theorem factA_FnWholeSheet : factsA Tryz.prog 4 Tryz.f4 Rows.fnWholeSheetSpec Rows.fnWholeSheetRow = true := by kernel_rfl
theorem fact9_FnWholeSheet : (Rows.fnWholeSheetRow.inPlace == Tryz.prog.inPlace 4) = true := by kernel_rfl
theorem fact10_FnWholeSheet : (Rows.fnWholeSheetRow.unfollowed == Tryz.prog.unfollowed 4) = true := by kernel_rfl
theorem fact11_FnWholeSheet : (Rows.fnWholeSheetRow.recurses == Tryz.prog.recurses 4) = true := by kernel_rfl
theorem fact12_FnWholeSheet : (Rows.fnWholeSheetRow.named == Tryz.prog.varsNamed 4) = true := by kernel_rfl
theorem factB_FnWholeSheet : factsB Tryz.prog 4 Tryz.f4 Rows.fnWholeSheetSpec Rows.fnWholeSheetRow = true := by kernel_rfl
theorem factN_FnWholeSheet : Tryz.prog.funcNamed Rows.fnWholeSheetRow.func = some 4 := by kernel_rfl
theorem proved_FnWholeSheet : Rows.FnWholeSheetSaid :=
  OpenClaim.holds_of_wide 4 Tryz.f4 rfl rfl rfl rfl rfl rfl rfl ⟨rfl, rfl, rfl, rfl, rfl⟩ rfl rfl rfl rfl rfl factN_FnWholeSheet Tryz.func4 (closed_of factA_FnWholeSheet fact9_FnWholeSheet fact10_FnWholeSheet fact11_FnWholeSheet fact12_FnWholeSheet factB_FnWholeSheet rfl rfl rfl)
    (of_decide_eq_true (by kernel_rfl)) (by unfold Func.isWrapper; first | (rw [if_pos (by decide +kernel)]; kernel_rfl) | (rw [if_neg (by decide +kernel)]; exact ⟨rfl, rfl⟩))
    (fun os started H enc _ => lifted_FnWholeSheet os started H enc)
theorem card_FnWholeSheet : Rows.FnWholeSheetCardSaid :=
  Claim7.holds_tied_plain_at .later [] [.data, .data, .data, .data, .sentinel, .sentinel, .pinned] true (true, "b23ad90f7aab4990505e795eef0437fb6e91d4c4ec67d550635f60c54c9311ea") true
    proved_FnWholeSheet (fun _ h => by cases h) (by kernel_rfl) (fun _ h => by cases h) fnWholeSheet_row_tie rfl ⟨rfl, rfl⟩ (by kernel_rfl) rfl
    (fun f fn hf hfn => by
      obtain rfl : f = 4 := Option.some.inj (factN_FnWholeSheet.symm.trans hf) |>.symm
      obtain rfl : fn = Tryz.f4 := (Option.some.inj (Tryz.func4.symm.trans hfn)).symm
      exact ⟨by kernel_rfl, fun j t ht => by
        rw [Tryz.params4] at ht
        have hm : t ∈ [22, 22] := by simpa using Array.mem_of_getElem? ht
        have hall : ([22, 22].all fun u => !Tryz.prog.wantsStandIn u) = true := by kernel_rfl
        exact (show Tryz.prog.wantsStandIn t = false by simpa using List.all_eq_true.1 hall t hm)⟩)
    (by kernel_rfl)
