/- FnStereotype: the lines of a plate have the same length, show the printed lines from the right, and are read as these. The tables that the card lists are tied to the program's text by the given tie. -/
import Derived.Test.YthpchphncelkpaaDoorRSt2
import Derived.Test.YthpchphncelkpaaDoorDrawW
import Derived.Test.YthpchphncelkpaaDoorDeT
import Derived.Test.YthpchphncelkpaaDoorTie
import Derived.Test.YthpchphncelkpaaDoorCards
import Derived.LaidMore
import Derived.Lay
import Derived.LaidSub
import Derived.MakeChecks
import Derived.Stop.Joined
import Derived.SevenTiedAt
namespace Go.Proofs.YthpchphncelkpaaDoor
set_option linter.unusedVariables false
open Go.ChangeShapes Go.WideShapes Go.ChangeAt Go.RowKit

theorem c_DrawStereotypeOf (v : Value) (cs : List Int) (w : World) (hv : RdL w v (cs.map (Value.int .u8))) (hl : cs.length ≤ 1099511627776) (hb : ∀ n ∈ cs, (Lit.int .u8 n).wf = true) (hcap : CapOk v) :
    Calls Tryd.prog 25 #[v] w (DrawTS w) := by
  have hc := c_DrawLinesValid v cs w hv hl hb hcap
  clear hv hb hcap
  go_enter Tryd.func25, Tryd.ntmps25
  go_wp2_with fail
  refine hc.mono ?_
  rintro e w1 ⟨v1, xs, rfl, h1, h2, h3, h4⟩
  have HO : Hid (_ ∧ _) := ⟨h1, h4⟩
  clear h1 h4 hc
  go_wp2
  go_ret
  exact ⟨_, xs, rfl, HO.out.1, h2, h3, HO.out.2⟩

set_option maxHeartbeats 4000000 in
set_option maxRecDepth 100000 in
theorem walk_FnStereotype (v : Value) (cs : List Int) {w : World} (hw : RdL w v (cs.map (Value.int .u8)) ∧ cs.length ≤ 9223372036854775807 ∧ (∀ n ∈ cs, (Lit.int .u8 n).wf = true) ∧ CapOk v) :
    Calls Tryd.prog 6 #[v] w fun e w' => e = .returned (.bool true) ∧ Below w.heap.size w w' := by
  obtain ⟨hR, hlen, hwf, hcap⟩ := hw
  have hR0 := hR
  obtain ⟨a, cap, rfl, hR1⟩ := hR0
  clear hR1
  simp only [List.length_map] at hR hcap ⊢
  by_cases hbig : 1048576 < cs.length
  · clear hR hcap hwf
    go_enter Tryd.func6, Tryd.ntmps6
    go_wp2
    go_ret
    exact ⟨rfl, Below.refl _ _⟩
  · go_enter Tryd.func6, Tryd.ntmps6
    go_wp2_with fail
    refine (c_DrawStereotypeOf _ cs w hR (by omega) hwf hcap).mono ?_
    rintro e w0 ⟨vl, xs, rfl, o_l, hx1, hx2, hA⟩
    clear hR hwf hcap
    have r_l := owns_RdS o_l
    clear o_l
    obtain ⟨al, cl, rfl⟩ := RdS_form r_l
    go_wp2_with fail
    refine (c_impl_StereotypeOf _ xs _ r_l (by omega) (fun s h => by have := hx2 s h; omega)).mono ?_
    rintro e w1 ⟨vp, rfl, o_p, hB⟩
    replace r_l := RdS.kept r_l hB
    replace hA := bthen hA hB
    clear hB
    have r_p := owns_RdS o_p
    clear o_p
    go_wp2_with fail
    refine (c_spec_StereotypeOf _ xs _ r_l (by omega) (fun s h => by have := hx2 s h; omega)).mono ?_
    rintro e w2 ⟨vs, rfl, o_s, hB⟩
    replace r_l := RdS.kept r_l hB
    replace r_p := RdS.kept r_p hB
    replace hA := bthen hA hB
    clear hB
    have r_s := owns_RdS o_s
    clear o_s
    have hPl := plateF_len xs
    have hP0 : linesB xs = false → (plateF xs).length = 0 := fun h => by unfold plateF; rw [h]; rfl
    have hP1 : linesB xs = true → (plateF xs).length = xs.length := fun h => by unfold plateF; rw [if_pos h, List.length_map]
    have HG : Hid (linesB xs = true → ∀ k, k < xs.length → (plateF xs).getD k noS = mirS (lng xs) (xs.getD k noS) ∧ (xs.getD k noS).size ≤ lng xs) := fun h k hk => ⟨by unfold plateF; rw [if_pos h]; simp [List.getD, hk], lng_ge (by simp [List.getD, hk])⟩
    have HF : Hid (linesB xs = true → rsF (plateF xs) = xs ∧ rsB (plateF xs) = true) := fun h => ⟨rsF_plate h, rsB_plate h⟩
    have HSZ : Hid (∀ s ∈ plateF xs, s.size ≤ 200) := fun s h => by
      unfold plateF at h; split at h
      · obtain ⟨y, hy, rfl⟩ := List.mem_map.1 h; rw [mirS_size (lng_ge hy)]; exact lng_bd hx2
      · cases h
    generalize hP : plateF xs = P at *
    have HPP : Hid (plateF xs = P) := hP
    clear hP
    obtain ⟨ap, cp, rfl⟩ := RdS_form r_p
    go_wp2_with fail
    refine (c_deTexts_t _ _ P _ r_p r_s (by omega)).mono ?_
    rintro e w3 ⟨rfl, hB⟩
    replace r_l := RdS.kept r_l hB
    replace r_p := RdS.kept r_p hB
    replace r_s := RdS.kept r_s hB
    replace hA := bthen hA hB
    clear hB
    go_wp2_with fail
    refine (c_impl_LinesValid _ xs _ r_l (by omega) (fun s h => by have := hx2 s h; omega)).mono ?_
    rintro e w4 ⟨rfl, hB⟩
    replace r_l := RdS.kept r_l hB
    replace r_p := RdS.kept r_p hB
    replace r_s := RdS.kept r_s hB
    replace hA := bthen hA hB
    clear hB
    go_wp2_with fail
    refine (c_spec_LinesValid _ xs _ r_l (by omega) (fun s h => by have := hx2 s h; omega)).mono ?_
    rintro e w5 ⟨rfl, hB⟩
    replace r_l := RdS.kept r_l hB
    replace r_p := RdS.kept r_p hB
    replace r_s := RdS.kept r_s hB
    replace hA := bthen hA hB
    clear hB
    cases hv : linesB xs
    · have HL : Hid _ := hv
      have HP0 : Hid _ := hP0 hv
      clear hv hP0 hP1
      go_wp2_with fail
      refine (c_impl_LinesValid _ xs _ r_l (by omega) (fun s h => by have := hx2 s h; omega)).mono ?_
      rintro e w6 ⟨rfl, hB⟩
      replace r_l := RdS.kept r_l hB
      replace r_p := RdS.kept r_p hB
      replace r_s := RdS.kept r_s hB
      replace hA := bthen hA hB
      clear hB
      rw [HL.out]
      go_wp2_with fail
      refine (c_spec_StereotypeOf _ xs _ r_l (by omega) (fun s h => by have := hx2 s h; omega)).mono ?_
      rintro e w7 ⟨vs2, rfl, o_s2, hB⟩
      replace r_l := RdS.kept r_l hB
      replace r_p := RdS.kept r_p hB
      replace r_s := RdS.kept r_s hB
      replace hA := bthen hA hB
      clear hB
      have r_s2 := owns_RdS o_s2
      clear o_s2
      rw [HPP.out] at r_s2
      go_wp2_with fail
      refine (c_deTexts_t _ _ P _ r_p r_s2 (by omega)).mono ?_
      rintro e w8 ⟨rfl, hB⟩
      replace r_l := RdS.kept r_l hB
      replace r_p := RdS.kept r_p hB
      replace r_s := RdS.kept r_s hB
      replace r_s2 := RdS.kept r_s2 hB
      replace hA := bthen hA hB
      clear hB
      go_wp2_with fail
      refine (c_impl_LinesValid _ xs _ r_l (by omega) (fun s h => by have := hx2 s h; omega)).mono ?_
      rintro e w9 ⟨rfl, hB⟩
      replace r_l := RdS.kept r_l hB
      replace r_p := RdS.kept r_p hB
      replace r_s := RdS.kept r_s hB
      replace r_s2 := RdS.kept r_s2 hB
      replace hA := bthen hA hB
      clear hB
      go_wp2_with fail
      refine (c_spec_LinesValid _ xs _ r_l (by omega) (fun s h => by have := hx2 s h; omega)).mono ?_
      rintro e w10 ⟨rfl, hB⟩
      replace r_l := RdS.kept r_l hB
      replace r_p := RdS.kept r_p hB
      replace r_s := RdS.kept r_s hB
      replace r_s2 := RdS.kept r_s2 hB
      replace hA := bthen hA hB
      clear hB
      rw [HL.out]
      go_wp2_with fail
      refine (c_impl_LinesValid _ xs _ r_l (by omega) (fun s h => by have := hx2 s h; omega)).mono ?_
      rintro e w11 ⟨rfl, hB⟩
      replace r_l := RdS.kept r_l hB
      replace r_p := RdS.kept r_p hB
      replace r_s := RdS.kept r_s hB
      replace r_s2 := RdS.kept r_s2 hB
      replace hA := bthen hA hB
      clear hB
      rw [HL.out]
      have h00 : ((P.length : Int) == 0) = true := beq_iff_eq.2 (by have := HP0.out; omega)
      go_wp2
      go_ret
      exact ⟨rfl, hA⟩
    · have HL : Hid _ := hv
      have hPx := hP1 hv
      have HG2 : Hid _ := HG.out hv
      have HF2 : Hid _ := HF.out hv
      clear hv hP0 hP1
      have HPX : Hid _ := hPx
      clear hPx
      go_wp2_with fail
      refine (c_impl_LinesValid _ xs _ r_l (by omega) (fun s h => by have := hx2 s h; omega)).mono ?_
      rintro e w6 ⟨rfl, hB⟩
      replace r_l := RdS.kept r_l hB
      replace r_p := RdS.kept r_p hB
      replace r_s := RdS.kept r_s hB
      replace hA := bthen hA hB
      clear hB
      rw [HL.out]
      go_wp2_with fail
      refine (c_impl_ReadStereotype _ P _ r_p (by omega) (fun s h => by have := HSZ.out s h; omega)).mono ?_
      rintro e w7 ⟨vb, rfl, o_b, hB⟩
      replace r_l := RdS.kept r_l hB
      replace r_p := RdS.kept r_p hB
      replace r_s := RdS.kept r_s hB
      replace hA := bthen hA hB
      clear hB
      have r_b := owns_RdS o_b
      clear o_b
      rw [HF2.out.1] at r_b
      rw [HF2.out.2]
      clear r_s
      go_wp2
      go_loopw [7, 8] (fun i _ wr => ∃ k : Nat, k ≤ P.length ∧ i = .int .i64 k ∧ Below w7.heap.size w7 wr) (fun i _ _ => P.length - (intOf i).toNat)
      case atStart => exact ⟨0, by omega, rfl, Below.refl _ _⟩
      case round =>
        obtain ⟨k, hk, rfl, hB⟩ := hrel
        by_cases hlt : k < P.length
        · have hkx : k < xs.length := by have := HPX.out; omega
          obtain ⟨bp, op, rfl, hbp, e1⟩ := RdS_cell r_p hB hlt
          obtain ⟨_, _, he, _, e2⟩ := RdS_cell r_p hB (show 0 < P.length by omega)
          simp only [Option.some.injEq, Addr.mk.injEq] at he
          obtain ⟨rfl, rfl, _⟩ := he
          simp only [Nat.add_zero] at e2
          obtain ⟨bl, ol, rfl, hbl, e3⟩ := RdS_cell r_l (Below.refl _ _) hkx
          have hg1 := HG2.out k hkx
          have hg2 := HG2.out 0 (by omega)
          have hp1 : (P.getD k noS).size = lng xs := by rw [hg1.1]; exact mirS_size hg1.2
          have hp0 : (P.getD 0 noS).size = lng xs := by rw [hg2.1]; exact mirS_size hg2.2
          have hat : ∀ j, (h : j < (xs.getD k noS).data.toList.length) → (P.getD k noS).data.toList[(P.getD k noS).size - 1 - j]? = some (xs.getD k noS).data.toList[j] := fun j h => by
            rw [hp1, hg1.1]
            have h2 : (mirS (lng xs) (xs.getD k noS)).data.toList = mirL (xs.getD k noS).data.toList (lng xs) := by simp [mirS]
            rw [h2]
            exact mirL_at (by rw [size_data]; exact hg1.2) h
          have hyp : (xs.getD k noS).size ≤ (P.getD k noS).size := by rw [hp1]; exact hg1.2
          have hp200 : (P.getD k noS).size ≤ 200 := HSZ.out _ (by simp [List.getD, hlt])
          have hpp : (P.getD k noS).size = (P.getD 0 noS).size := by rw [hp1, hp0]
          clear hg1 hg2 hp1 hp0
          obtain ⟨p, hpe⟩ : ∃ p, P.getD k noS = p := ⟨_, rfl⟩
          obtain ⟨p0, hp0e⟩ : ∃ p0, P.getD 0 noS = p0 := ⟨_, rfl⟩
          obtain ⟨y, hye⟩ : ∃ y, xs.getD k noS = y := ⟨_, rfl⟩
          rw [hpe] at e1 hat hyp hp200 hpp
          rw [hp0e] at e2 hpp
          rw [hye] at e3 hat hyp
          have HAT : Hid _ := hat
          have hq : ((p.size : Int) == (p0.size : Int)) = true := beq_iff_eq.2 (by omega)
          have hq' : ((p.size : Int) != (p0.size : Int)) = false := by simp; omega
          have HR : Hid (RdS w7 (.slice (some ⟨bl, ol, none⟩) xs.length cl) xs ∧ RdS w7 (.slice (some ⟨bp, op, none⟩) P.length cp) P ∧ RdS w7 vb xs) := ⟨r_l, r_p, r_b⟩
          clear hpe hp0e hye hat hpp r_l r_p r_b
          have i1 : (0 : Int) ≤ (k : Int) := by omega
          have i2 : (k : Int) < (P.length : Int) := by omega
          have i3 : (0 : Int) < (P.length : Int) := by omega
          have i4 : (k : Int) < (xs.length : Int) := by omega
          go_wp2
          go_quiet (fail)
          clear hq hq' e2
          go_wp2
          rename_i nq
          have e1' : (wr.drewN nq).cell? ⟨bp, op + k, none⟩ = some (.string p) := e1
          have hB' := below_drewN hB nq
          clear e1
          generalize wr.drewN nq = wq at e1' hB' ⊢
          go_loopw [8] (fun j wx => ∃ n : Nat, n ≤ y.size ∧ j = .int .i64 n ∧ Below wq.heap.size wq wx) (fun j _ => y.size - (intOf j).toNat)
          case atStart => exact ⟨0, by omega, rfl, Below.refl _ _⟩
          case round =>
            obtain ⟨n, hn, rfl, hBx⟩ := hrel
            have hsq := hB'.size
            have e1 : wr.cell? ⟨bp, op + k, none⟩ = some (.string p) := by rw [(bcell hBx).1 _ _ (by omega)]; exact e1'
            have e4 : wr.cell? ⟨bl, ol + k, none⟩ = some (.string y) := by rw [(bcell hBx).1 _ _ (by omega), (bcell hB').1 _ _ (by omega)]; exact e3
            by_cases hn2 : n < y.size
            · have l1 : n < y.data.toList.length := by rw [size_data]; exact hn2
              have l2 : p.size - 1 - n < p.data.toList.length := by rw [size_data]; omega
              have q1 : p.size - 1 - n < p.size := by omega
              have ha := HAT.out n l1
              rw [List.getElem?_eq_getElem l2] at ha
              have ha2 : p[p.size - 1 - n] = y[n] := Option.some.inj ha
              have et : ((p[p.size - 1 - n].toNat : Int) == (y[n].toNat : Int)) = true := by rw [ha2]; exact beq_self_eq_true _
              have et' : ((p[p.size - 1 - n].toNat : Int) != (y[n].toNat : Int)) = false := by rw [ha2]; simp
              have hwa : IntKind.i64.wrap ((p.size : Int) - 1) = (p.size : Int) - 1 := IntWalk.i64_in _ (by omega)
              have hwb : IntKind.i64.wrap ((p.size : Int) - 1 - (n : Int)) = ((p.size - 1 - n : Nat) : Int) := by rw [IntWalk.i64_in _ (by omega)]; omega
              have hwc : (p.size : Int) - 1 - (n : Int) = ((p.size - 1 - n : Nat) : Int) := by omega
              have j1 : (0 : Int) ≤ ((p.size - 1 - n : Nat) : Int) := by omega
              have j2 : ((p.size - 1 - n : Nat) : Int) < (p.size : Int) := by omega
              have j3 : (0 : Int) ≤ (n : Int) := by omega
              have j4 : (n : Int) < (y.size : Int) := by omega
              clear ha ha2
              go_wp2
              go_quiet (fail)
              go_wp2
              go_roundw
              case rel => exact ⟨n + 1, by omega, by go_num, below_drewN hBx _⟩
              case measure => simp [intOf]; omega
            · have HO : Hid (Below w7.heap.size w7 wr) := bthen hB' hBx
              clear hBx hB' hB
              go_wp2
              go_roundw
              case rel => exact ⟨k + 1, by omega, by go_num, HO.out⟩
              case measure => simp [intOf]; omega
        · have hd := c_deTexts_t _ _ xs wr (RdS.kept r_b hB) (RdS.kept r_l hB) (by omega)
          replace hA := bthen hA hB
          clear r_l r_p r_b hB
          go_wp2_with fail
          refine hd.mono ?_
          rintro e wz ⟨rfl, hB⟩
          replace hA := bthen hA hB
          go_wp2
          go_ret
          exact ⟨rfl, hA⟩

set_option maxRecDepth 100000 in
theorem lifted_FnStereotype (os : Os) (started : os.Started) (H : Type) (enc : TypeId × Value → H) :
    ReturnsInHanded {} Tryd.checked os 6 .any (fun w args => (Rows.fnStereotypeSpec.pre enc Tryd.prog Tryd.f6 [] false w args ∧ laidMetH Tryd.prog Rows.fnStereotypeRow.laid w) ∧ sizedMet enc Tryd.prog Tryd.f6 (OpenSpec.ofChange Rows.fnStereotypeSpec) false w args)
      (Rows.fnStereotypeSpec.post enc Tryd.prog Tryd.f6 false true false false) := by
  refine returnsInHanded_of_change_and (C := Tryd.checked) (X := fun w _ => laidMetH Tryd.prog Rows.fnStereotypeRow.laid w) (fun _ _ _ hh h => h.of_heap hh) own started (by kernel_rfl) Tryd.func6
    (ChangeSpec.witness_shaped (enc := enc) (C := Tryd.checked) (os := os) (X := fun w _ => laidMetH Tryd.prog Rows.fnStereotypeRow.laid w) false (World.laidAll Tryd.prog os Rows.fnStereotypeRow.laid) #[.slice none 0 0] 8 (World.laidAll_os _ _ _)
      (World.shaped_of_ZipB (by kernel_rfl) (by kernel_rfl)) (by kernel_rfl) (by kernel_rfl) (by kernel_rfl) (by rw [MakeChecks.laidMetH_plain _ _ _ (by kernel_rfl)]; exact laidMet_laidAll _ (by kernel_rfl) (by kernel_rfl))) ?_
  intro W base args ds gs before hval0 hW _ _ hL _
  have hval : ∀ (j : Nat) t v, Tryd.f6.params[j]? = some t → args[j]? = some v → Value.okWide Tryd.prog W .any base t v := hval0
  have hW' := hW
  obtain ⟨p, q, hA0, hV, rfl, hfz, hnd⟩ := hW
  have hA : DataW.TrodAll enc Tryd.prog W 0 (fun _ => true) true Tryd.f6.params.toList args.toList ds p := hA0
  rw [Tryd.params6] at hA hval
  obtain ⟨v0, vs0, d0, ds0, p0, q0, hargs, rfl, rfl, h0, r0⟩ := trodAll_cons hA
  obtain ⟨rfl, rfl, rfl⟩ := trodAll_nil r0
  obtain rfl : args = #[v0] := by cases args; simp_all
  obtain ⟨rfl, rfl⟩ := trodVars_none hV
  obtain ⟨l0, w0⟩ := open_bytes (hval 0 22 v0 rfl rfl) h0
  refine (walk_FnStereotype v0 l0 w0).mono fun e W' ⟨he, hg⟩ => ?_
  subst he
  exact ⟨_, rfl, law_post laidOut hW' rfl (by kernel_rfl) rfl Tryd.underlying4 rfl rfl rfl rfl hg⟩
theorem factA_FnStereotype : factsA Tryd.prog 6 Tryd.f6 Rows.fnStereotypeSpec Rows.fnStereotypeRow = true := by kernel_rfl
theorem fact9_FnStereotype : (Rows.fnStereotypeRow.inPlace == Tryd.prog.inPlace 6) = true := by kernel_rfl
theorem fact10_FnStereotype : (Rows.fnStereotypeRow.unfollowed == Tryd.prog.unfollowed 6) = true := by kernel_rfl
theorem fact11_FnStereotype : (Rows.fnStereotypeRow.recurses == Tryd.prog.recurses 6) = true := by kernel_rfl
theorem fact12_FnStereotype : (Rows.fnStereotypeRow.named == Tryd.prog.varsNamed 6) = true := by kernel_rfl
theorem factB_FnStereotype : factsB Tryd.prog 6 Tryd.f6 Rows.fnStereotypeSpec Rows.fnStereotypeRow = true := by kernel_rfl
theorem factN_FnStereotype : Tryd.prog.funcNamed Rows.fnStereotypeRow.func = some 6 := by kernel_rfl
theorem proved_FnStereotype : Rows.FnStereotypeSaid :=
  OpenClaim.holds_of_wide 6 Tryd.f6 rfl rfl rfl rfl rfl rfl rfl ⟨rfl, rfl, rfl, rfl, rfl⟩ rfl rfl rfl rfl rfl factN_FnStereotype Tryd.func6 (closed_of factA_FnStereotype fact9_FnStereotype fact10_FnStereotype fact11_FnStereotype fact12_FnStereotype factB_FnStereotype rfl rfl rfl)
    (of_decide_eq_true (by kernel_rfl)) (by unfold Func.isWrapper; first | (rw [if_pos (by decide +kernel)]; kernel_rfl) | (rw [if_neg (by decide +kernel)]; exact ⟨rfl, rfl⟩))
    (fun os started H enc _ => lifted_FnStereotype os started H enc)
theorem card_FnStereotype : Rows.FnStereotypeCardSaid :=
  Claim7.holds_tied_plain_at .later [] [.data, .pinned] true (true, "bc6ca8dfee119a1eb64999733c4ff5f625e0ee3f9493a39b5d121a8fe50f1854") true
    proved_FnStereotype (fun _ h => by cases h) (by kernel_rfl) (fun _ h => by cases h) fnStereotype_row_tie rfl ⟨rfl, rfl⟩ (by kernel_rfl) rfl
    (fun f fn hf hfn => by
      obtain rfl : f = 6 := Option.some.inj (factN_FnStereotype.symm.trans hf) |>.symm
      obtain rfl : fn = Tryd.f6 := (Option.some.inj (Tryd.func6.symm.trans hfn)).symm
      exact ⟨by kernel_rfl, fun j t ht => by
        rw [Tryd.params6] at ht
        have hm : t ∈ [22] := by simpa using Array.mem_of_getElem? ht
        have hall : ([22].all fun u => !Tryd.prog.wantsStandIn u) = true := by kernel_rfl
        exact (show Tryd.prog.wantsStandIn t = false by simpa using List.all_eq_true.1 hall t hm)⟩)
    (by kernel_rfl)

end Go.Proofs.YthpchphncelkpaaDoor
