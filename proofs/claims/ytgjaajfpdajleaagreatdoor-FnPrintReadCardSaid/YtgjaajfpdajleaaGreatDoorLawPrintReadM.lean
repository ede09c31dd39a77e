/- FnPrintRead: a table is read from its pages, which are printed one after the other. The tables that the card lists are tied to the program's text by the given tie. No condition. -/
import Derived.Test.YtgjaajfpdajleaaGreatDoorMPrintReadRt3
import Derived.Test.YtgjaajfpdajleaaGreatDoorMPrintReadRp5
import Derived.Test.YtgjaajfpdajleaaGreatDoorMPrintReadNum0
import Derived.Test.YtgjaajfpdajleaaGreatDoorMPrintReadPsum2
import Derived.Test.YtgjaajfpdajleaaGreatDoorMPrintReadDrawRT
import Derived.Test.YtgjaajfpdajleaaGreatDoorMPrintReadDeI
import Derived.Test.YtgjaajfpdajleaaGreatDoorTie
import Derived.Test.YtgjaajfpdajleaaGreatDoorCards
import Derived.LaidMore
import Derived.Lay
import Derived.LaidSub
import Derived.MakeChecks
import Derived.Stop.Joined
import Derived.SevenTiedAt
namespace Go.Proofs.YtgjaajfpdajleaaGreatDoor
set_option linter.unusedVariables false
open Go.ChangeShapes Go.WideShapes Go.ChangeAt Go.RowKit

theorem ptOk_at {r a c : Int} {xs : List Int} {n q : Nat} (h : ptOk r a c xs n = true) (hq : q < n) : plinB r a c xs (q : Int) = true := by
  unfold ptOk at h
  exact List.all_eq_true.1 h q (List.mem_range.2 hq)

set_option maxHeartbeats 4000000 in
set_option maxRecDepth 100000 in
theorem walk_FnPrintRead (v : Value) (cs : List Int) {w : World} (hw : RdL w v (cs.map (Value.int .u8)) ∧ cs.length ≤ 9223372036854775807 ∧ (∀ n ∈ cs, (Lit.int .u8 n).wf = true) ∧ CapOk v) (htab : TabW w) (herr : ErrW w) (hmax : MaxW w) :
    Calls Tryz.prog 9 #[v] w fun e w' => e = .returned (.bool true) ∧ Below w.heap.size w w' := by
  obtain ⟨hR, hlen, hwf, hcap⟩ := hw
  have hR0 := hR
  obtain ⟨a, cap, rfl, hR1⟩ := hR0
  clear hR1
  have HT : Hid (TabW w ∧ ErrW w ∧ MaxW w) := ⟨htab, herr, hmax⟩
  clear htab herr hmax
  simp only [List.length_map] at hR hcap ⊢
  by_cases hbig : 1048576 < cs.length
  · clear hR hcap hwf
    go_enter Tryz.func9, Tryz.ntmps9
    go_wp2
    go_ret
    exact ⟨rfl, Below.refl _ _⟩
  · go_enter Tryz.func9, Tryz.ntmps9
    go_wp2_with fail
    refine (c_DrawPrintTable _ cs w hR (by omega) hwf hcap).mono ?_
    rintro e w1 ⟨r, a, c, vv, xs, rfl, o_v, hx61, hA⟩
    clear hR hwf hcap
    obtain ⟨av, cv, rfl, hcv1, hcv2⟩ := own_cap o_v
    have hbx := Box3.new w1 r a c 27
    replace o_v := o_v.alloc (.cells #[(.int .i64 (r)), (.int .i64 (a)), (.int .i64 (c))] 27)
    replace hA := hA.alloc hA.size (.cells #[(.int .i64 (r)), (.int .i64 (a)), (.int .i64 (c))] 27)
    obtain ⟨B, hB0⟩ : ∃ B, ptB r a c xs = B := ⟨_, rfl⟩
    obtain ⟨F, hF0⟩ : ∃ F, ptF r a c xs = F := ⟨_, rfl⟩
    have hFl : F.length ≤ 2000 := by rw [← hF0]; exact ptF_small _ _ _ _
    have HP : Hid (ptB r a c xs = B ∧ ptF r a c xs = F) := ⟨hB0, hF0⟩
    have hc := c_impl_PrintTable r a c av cv xs _ (HT.out.1.below hA) (owns_RdI o_v) (by omega) hcv1 hcv2
    rw [hB0, hF0] at hc
    clear hB0 hF0
    go_wp2_with fail
    refine hc.mono ?_
    rintro e w2 ⟨Y, rfl, hY, hB⟩
    replace hbx := hbx.kept hB
    replace o_v := ownsRow_kept_below o_v hB
    replace hA := bthen hA hB
    have hYs : Y.size ≤ 2000 := by rw [hY.size]; exact hFl
    have HY := Lib.hid hY
    obtain ⟨k0, k1, k2, kb⟩ := hbx
    have HBx : Hid (Box3 w1.heap.size r a c w2) := ⟨k0, k1, k2, kb⟩
    have hc := c_spec_PrintTable r a c _ xs w2 (owns_RdI o_v) (by omega)
    rw [HP.out.1, HP.out.2] at hc
    clear hB hY
    go_wp2_with fail
    refine hc.mono ?_
    rintro e w3 ⟨Z, rfl, hZ, hB⟩
    obtain rfl : Z = Y := IsS.inj hZ HY.out
    replace o_v := ownsRow_kept_below o_v hB
    have hbx := HBx.out.kept hB
    replace hA := bthen hA hB
    clear hc hB hZ HBx k0 k1 k2 kb
    cases B
    · clear hbx o_v
      go_wp2
      go_ret
      exact ⟨rfl, hA⟩
    · have hpB := HP.out.1
      obtain ⟨q1, q2, q3, _⟩ := rt_of hpB HP.out.2
      have hrv : rdtV r a c F = xs := by unfold rdtV; rw [q1, if_pos rfl, q2]
      have hc := c_impl_ReadTable r a c Z F HY.out w3 (HT.out.1.below hA) (HT.out.2.1.below hA) (HT.out.2.2.below hA) (by omega)
      rw [hrv, q1] at hc
      have hFT : F = ptT r a c xs (ptN r a c xs) := by rw [← HP.out.2]; exact ptF_of hpB
      obtain ⟨hpV, hOk⟩ : ptV r a c xs = true ∧ ptOk r a c xs (ptN r a c xs) = true := by have h := hpB; unfold ptB at h; rwa [Bool.and_eq_true] at h
      obtain ⟨hpn, hn60⟩ := ptN_bd hpV
      obtain ⟨n, hn⟩ : ∃ n, ptN r a c xs = n := ⟨_, rfl⟩
      rw [hn] at hFT hOk hpn hn60
      have HO : Hid (F = ptT r a c xs n ∧ ptOk r a c xs n = true ∧ pnF r a c xs.length = (n : Int)) := ⟨hFT, hOk, hpn⟩
      obtain ⟨k0, k1, k2, kb⟩ := hbx
      have HBx : Hid (Box3 w1.heap.size r a c w3) := ⟨k0, k1, k2, kb⟩
      clear hpB q1 q2 q3 hrv hFT hpV hOk hpn hn
      go_wp2_with fail
      refine hc.mono ?_
      rintro e w4 ⟨vb, rfl, o_b, hB⟩
      obtain ⟨ab, cb, rfl⟩ := OwnI_form3 o_b
      replace o_v := ownsRow_kept_below o_v hB
      have hbx4 := HBx.out.kept hB
      have hA4 := bthen hA hB
      clear hc hB HBx k0 k1 k2 kb hA
      have HA4 : Hid (Below w.heap.size w w4 ∧ OwnI w4 (w.heap.size) (.slice av xs.length cv) xs ∧ OwnI w4 w3.heap.size (.slice ab xs.length cb) xs ∧ Box3 w1.heap.size r a c w4) := ⟨hA4, o_v, o_b, hbx4⟩
      clear hA4 o_v o_b hbx4
      go_wp2
      go_loopw [11, 12] (fun o i wr => ∃ (q : Nat) (O : ByteArray), q ≤ n ∧ i = .int .i64 q ∧ o = .string O ∧ O.size ≤ q * 1600 ∧ Hid (IsS O (ptT r a c xs q)) ∧ Below w4.heap.size w4 wr) (fun _ i _ => n - (intOf i).toNat)
      case atStart => exact ⟨0, ⟨#[]⟩, by omega, rfl, rfl, by show 0 ≤ _; omega, (show IsS _ _ from rfl), Below.refl _ _⟩
      case round =>
        obtain ⟨q, O, hq, rfl, rfl, hOs, HQ, hB⟩ := hrel
        have hbx := HA4.out.2.2.2.kept hB
        obtain ⟨k0, k1, k2, kb⟩ := hbx
        go_wp2_with fail
        refine (c_impl_PagesNeeded r a c xs.length wr).mono ?_
        rw [HO.out.2.2]
        rintro e w5 ⟨rfl, hB5⟩
        replace hB := bthen hB hB5
        have hbx := HA4.out.2.2.2.kept hB
        clear hB5 k0 k1 k2 kb
        obtain ⟨k0, k1, k2, kb⟩ := hbx
        by_cases hlt : q < n
        · have hc := k_impl_PageLines2 r a c _ xs q w5 (HT.out.1.below (bthen HA4.out.1 hB)) (ownsRow_kept_below HA4.out.2.1 hB) (by omega)
          rw [ptOk_at HO.out.2.1 hlt] at hc
          obtain ⟨hs1, hs2⟩ := plinS_small r a c xs (q : Int)
          have HT1 : Hid (ptT r a c xs (q + 1) = (ptT r a c xs q ++ (if 0 < q then [10] else [])) ++ linT (plinS r a c xs (q : Int))) := by show _ = _; rw [ptT_succ, List.append_assoc]
          have hq60 : q ≤ 60 := by omega
          generalize plinS r a c xs (q : Int) = L at hc hs1 hs2 HT1
          go_wp2_with fail
          refine hc.mono ?_
          rintro e w6 ⟨u, rfl, ho, hB6⟩
          have hr := owns_RdS ho
          have hr0 := hr
          obtain ⟨b1, cap1, rfl, hr1⟩ := hr0
          replace hB := bthen hB hB6
          simp only [List.length_map] at hr ⊢
          have HS : Hid (∀ y ∈ L, y.size ≤ 78) := hs2
          clear ho hc hB6 hr1 hs2 k0 k1 k2 kb
          obtain ⟨T1, hT1⟩ : ∃ T1, ptT r a c xs q ++ (if 0 < q then [10] else []) = T1 := ⟨_, rfl⟩
          have HT2 : Hid (ptT r a c xs q ++ (if 0 < q then [10] else []) = T1) := hT1
          clear hT1
          have hd : ((0 : Int) < (q : Int) ∧ 0 < q) ∨ (¬ (0 : Int) < (q : Int) ∧ ¬ 0 < q) := by omega
          rcases hd with ⟨g1, g2⟩ | ⟨g1, g2⟩
          all_goals
            have G2 := Lib.hid g2
            clear g2
            go_wp2
            go_loopw [11, 15] (fun o i wi => ∃ (j : Nat) (Q : ByteArray), j ≤ L.length ∧ i = .int .i64 j ∧ o = .string Q ∧ Q.size ≤ q * 1600 + 1 + j * 79 ∧ Hid (IsS Q (T1 ++ linT (L.take j))) ∧ Below w6.heap.size w6 wi) (fun _ i _ => L.length - (intOf i).toNat)
            case atStart =>
              refine ⟨0, _, by omega, rfl, rfl, ?_, ?_, Below.refl _ _⟩
              · first | (rw [ByteArray.size_append, show (ByteArray.mk #[10]).size = 1 from rfl]; omega) | omega
              · show IsS _ _
                rw [← HT2.out]
                first
                  | (rw [if_pos G2.out]; exact (((HQ.out.app (IsS.mk [10]))).cast (by simp [linT_nil])))
                  | (rw [if_neg G2.out]; exact HQ.out.cast (by simp [linT_nil]))
            case round =>
              obtain ⟨j, Q, hj, rfl, rfl, hQs, HQ2, hBi⟩ := hrel
              by_cases hjl : j < L.length
              · obtain ⟨b2, o2, rfl, hb2, e1⟩ := RdS_cell hr hBi hjl
                obtain ⟨y, hy⟩ : ∃ y, L.getD j noS = y := ⟨_, rfl⟩
                have hys : y.size ≤ 78 := by rw [← hy]; exact HS.out _ (by simp [List.getD, hjl])
                have HL : Hid (linT (L.take (j + 1)) = linT (L.take j) ++ (y.data.toList ++ [10])) := by show _ = _; rw [linT_take L j hjl, hy]
                rw [hy] at e1
                clear hy hr
                go_wp2
                go_roundw
                case rel => exact ⟨j + 1, _, by omega, by go_num, rfl, by rw [ByteArray.size_append, ByteArray.size_append, show (ByteArray.mk #[10]).size = 1 from rfl]; omega, by show IsS _ _; rw [HL.out, ← List.append_assoc, ← List.append_assoc]; exact (HQ2.out.app (IsS.self y)).app (IsS.mk [10]), hBi⟩
                case measure => simp [intOf]; omega
              · have HF : Hid (IsS Q (ptT r a c xs (q + 1)) ∧ Below w4.heap.size w4 wr) := by
                  have h := HQ2.out
                  rw [List.take_of_length_le (by omega)] at h
                  exact ⟨by rw [HT1.out, HT2.out]; exact h, bthen hB hBi⟩
                clear hBi hB hr
                go_wp2
                go_roundw
                case rel => exact ⟨q + 1, _, by omega, by go_num, rfl, by omega, HF.out.1, HF.out.2⟩
                case measure => simp [intOf]; omega
        · have hqn : q = n := by omega
          have hOZ : O = Z := by
            refine IsS.inj HQ.out ?_
            rw [hqn, ← HO.out.1]; exact HY.out
          have hc := c_deInts _ _ xs xs w5 (owns_RdI (ownsRow_kept_below HA4.out.2.2.1 hB)) (owns_RdI (ownsRow_kept_below HA4.out.2.1 hB)) (by omega) (by omega)
          rw [decide_eq_true rfl] at hc
          have hA5 := bthen HA4.out.1 hB
          subst hOZ
          clear hB k0 k1 k2 kb HQ HY
          go_wp2_with fail
          refine hc.mono ?_
          rintro e w6 ⟨rfl, hB6⟩
          have hF := bthen hA5 hB6
          clear hc hB6 hA5
          go_wp2
          go_ret
          exact ⟨rfl, hF⟩

set_option maxRecDepth 100000 in
theorem lifted_FnPrintRead (os : Os) (started : os.Started) (H : Type) (enc : TypeId × Value → H) :
    ReturnsInHanded {} Tryz.checked os 9 .any (fun w args => (Rows.fnPrintReadSpec.pre enc Tryz.prog Tryz.f9 [] false w args ∧ laidMetH Tryz.prog Rows.fnPrintReadRow.laid w) ∧ sizedMet enc Tryz.prog Tryz.f9 (OpenSpec.ofChange Rows.fnPrintReadSpec) false w args)
      (Rows.fnPrintReadSpec.post enc Tryz.prog Tryz.f9 false true false false) := by
  refine handed_shaped (C := Tryz.checked) (X := fun w _ => laidMetH Tryz.prog Rows.fnPrintReadRow.laid w) (fun _ _ _ hh h => h.of_heap hh) own started (by kernel_rfl) Tryz.func9
    (ChangeSpec.witness_shaped (enc := enc) (C := Tryz.checked) (os := os) (X := fun w _ => laidMetH Tryz.prog Rows.fnPrintReadRow.laid w) false (World.laidAll Tryz.prog os Rows.fnPrintReadRow.laid) #[.slice none 0 0] 8 (World.laidAll_os _ _ _)
      (World.shaped_of_ZipB (by kernel_rfl) (by kernel_rfl)) (by kernel_rfl) (by kernel_rfl) (by kernel_rfl) (by rw [MakeChecks.laidMetH_plain _ _ _ (by kernel_rfl)]; exact laidMet_laidAll _ (by kernel_rfl) (by kernel_rfl))) ?_
  intro W base args ds gs before hval0 hW hL hsh
  have hval : ∀ (j : Nat) t v, Tryz.f9.params[j]? = some t → args[j]? = some v → Value.okWide Tryz.prog W .any base t v := hval0
  have htab : TabW W := TabW.of_laid (by kernel_rfl) hL
  have herr : ErrW W := ErrW.of_laid (by kernel_rfl) hL
  have hmax : MaxW W := MaxW.of_shaped hsh
  have hW' := hW
  obtain ⟨p, q, hA0, hV, rfl, hfz, hnd⟩ := hW
  have hA : DataW.TrodAll enc Tryz.prog W 0 (fun _ => true) true Tryz.f9.params.toList args.toList ds p := hA0
  rw [Tryz.params9] at hA hval
  obtain ⟨v0, vs0, d0, ds0, p0, q0, hargs, rfl, rfl, h0, r0⟩ := trodAll_cons hA
  obtain ⟨rfl, rfl, rfl⟩ := trodAll_nil r0
  obtain rfl : args = #[v0] := by cases args; simp_all
  obtain ⟨rfl, rfl⟩ := trodVars_none hV
  obtain ⟨l0, w0⟩ := open_bytes (hval 0 32 v0 rfl rfl) h0
  refine (walk_FnPrintRead v0 l0 w0 htab herr hmax).mono fun e W' ⟨he, hg⟩ => ?_
  subst he
  exact ⟨_, rfl, law_post laidOut hW' rfl (by kernel_rfl) rfl Tryz.underlying4 rfl rfl rfl rfl hg⟩
theorem factA_FnPrintRead : factsA Tryz.prog 9 Tryz.f9 Rows.fnPrintReadSpec Rows.fnPrintReadRow = true := by kernel_rfl
theorem fact9_FnPrintRead : (Rows.fnPrintReadRow.inPlace == Tryz.prog.inPlace 9) = true := by kernel_rfl
theorem fact10_FnPrintRead : (Rows.fnPrintReadRow.unfollowed == Tryz.prog.unfollowed 9) = true := by kernel_rfl
theorem fact11_FnPrintRead : (Rows.fnPrintReadRow.recurses == Tryz.prog.recurses 9) = true := by kernel_rfl
theorem fact12_FnPrintRead : (Rows.fnPrintReadRow.named == Tryz.prog.varsNamed 9) = true := by kernel_rfl
theorem factB_FnPrintRead : factsB Tryz.prog 9 Tryz.f9 Rows.fnPrintReadSpec Rows.fnPrintReadRow = true := by kernel_rfl
theorem factN_FnPrintRead : Tryz.prog.funcNamed Rows.fnPrintReadRow.func = some 9 := by kernel_rfl
theorem proved_FnPrintRead : Rows.FnPrintReadSaid :=
  OpenClaim.holds_of_wide 9 Tryz.f9 rfl rfl rfl rfl rfl rfl rfl ⟨rfl, rfl, rfl, rfl, rfl⟩ rfl rfl rfl rfl rfl factN_FnPrintRead Tryz.func9 (closed_of factA_FnPrintRead fact9_FnPrintRead fact10_FnPrintRead fact11_FnPrintRead fact12_FnPrintRead factB_FnPrintRead rfl rfl rfl)
    (of_decide_eq_true (by kernel_rfl)) (by unfold Func.isWrapper; first | (rw [if_pos (by decide +kernel)]; kernel_rfl) | (rw [if_neg (by decide +kernel)]; exact ⟨rfl, rfl⟩))
    (fun os started H enc _ => lifted_FnPrintRead os started H enc)
theorem card_FnPrintRead : Rows.FnPrintReadCardSaid :=
  Claim7.holds_tied_plain_at .later [] [.data, .data, .data, .data, .sentinel, .sentinel, .pinned] true (true, "730894ce3fdd1c60b1cd13fd3d8d0eaff75b6a36daf9ceb74fd76b5c933006d2") true
    proved_FnPrintRead (fun _ h => by cases h) (by kernel_rfl) (fun _ h => by cases h) fnPrintRead_row_tie rfl ⟨rfl, rfl⟩ (by kernel_rfl) rfl
    (fun f fn hf hfn => by
      obtain rfl : f = 9 := Option.some.inj (factN_FnPrintRead.symm.trans hf) |>.symm
      obtain rfl : fn = Tryz.f9 := (Option.some.inj (Tryz.func9.symm.trans hfn)).symm
      exact ⟨by kernel_rfl, fun j t ht => by
        rw [Tryz.params9] at ht
        have hm : t ∈ [32] := by simpa using Array.mem_of_getElem? ht
        have hall : ([32].all fun u => !Tryz.prog.wantsStandIn u) = true := by kernel_rfl
        exact (show Tryz.prog.wantsStandIn t = false by simpa using List.all_eq_true.1 hall t hm)⟩)
    (by kernel_rfl)
end Go.Proofs.YtgjaajfpdajleaaGreatDoor
