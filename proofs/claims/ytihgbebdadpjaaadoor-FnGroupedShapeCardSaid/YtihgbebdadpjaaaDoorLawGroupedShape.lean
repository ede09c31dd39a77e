/- FnGroupedShape: from the right, three digits and a space alternate, and the text begins with a digit, or with one behind a sign. The tables that the card lists are tied to the program's text by the given tie. -/
import Derived.Test.YtihgbebdadpjaaaDoorGrp2
import Derived.Test.YtihgbebdadpjaaaDoorShape
import Derived.Test.YtihgbebdadpjaaaDoorDraw6
import Derived.Test.YtihgbebdadpjaaaDoorTie
import Derived.Test.YtihgbebdadpjaaaDoorCards
import Derived.Stop.Joined
import Derived.SevenTiedAt
namespace Go.Proofs.YtihgbebdadpjaaaDoor
set_option linter.unusedVariables false
open Go.ChangeShapes Go.WideShapes Go.ChangeAt Go.RowKit

theorem c_DrawGroupDigits (v : Value) (cs : List Int) (w : World) (hv : RdL w v (cs.map (Value.int .u8))) (hl : cs.length ≤ 1099511627776) (hb : ∀ n ∈ cs, (Lit.int .u8 n).wf = true) (hcap : CapOk v) :
    Calls Tryd.prog 7 #[v] w fun e w' => ∃ n : Int, e = .returned (.int .i64 (n)) ∧ Below w.heap.size w w' := by
  have hv0 := hv
  obtain ⟨a, cap, rfl, hv1⟩ := hv0
  clear hv1
  simp only [List.length_map] at hv hcap ⊢
  go_enter Tryd.func7, Tryd.ntmps7
  go_wp2_with fail
  refine (c_l9Open _ cs w hv hl hb hcap).mono ?_
  rintro e w1 ⟨g, rfl, hr1, hgb, hB⟩
  clear hb hcap hv
  go_wp2_with fail
  refine (c_l6Number g 0 w1 hr1 (by omega)).mono ?_
  rintro e w3 ⟨n, rfl, _, hr3, hg3⟩
  have HO : Hid (Below w.heap.size w w3) := hB.grown hg3 hB.size (fun k hk => by cases hk; exact hgb)
  clear hg3 hB
  go_wp2
  go_ret
  exact ⟨n, rfl, HO.out⟩
theorem toList_of {Y : ByteArray} {l : List UInt8} (h : IsS Y l) : Y.toList = l := by rw [ByteArray.toList_eq]; exact h
theorem byte_facts {c : UInt8} : (isDg c → ((c.toNat : Int) == 32) = false ∧ ((c.toNat : Int) == 45) = false) := by
  intro h
  unfold isDg at h
  exact ⟨beq_eq_false_iff_ne.2 (by omega), beq_eq_false_iff_ne.2 (by omega)⟩

set_option maxHeartbeats 1600000 in
theorem walk_FnGroupedShape (v : Value) (cs : List Int) {w : World} (hw : RdL w v (cs.map (Value.int .u8)) ∧ cs.length ≤ 9223372036854775807 ∧ (∀ n ∈ cs, (Lit.int .u8 n).wf = true) ∧ CapOk v) (htab : TabW w) :
    Calls Tryd.prog 4 #[v] w fun e w' => e = .returned (.bool true) ∧ Below w.heap.size w w' := by
  obtain ⟨hR, hlen, hwf, hcap⟩ := hw
  have hR0 := hR
  obtain ⟨a, cap, rfl, hR1⟩ := hR0
  clear hR1
  simp only [List.length_map] at hR hcap ⊢
  by_cases hbig : 1048576 < cs.length
  · clear hR hcap hwf
    go_enter Tryd.func4, Tryd.ntmps4
    go_wp2
    go_ret
    exact ⟨rfl, Below.refl _ _⟩
  · go_enter Tryd.func4, Tryd.ntmps4
    go_wp2_with fail
    refine (c_DrawGroupDigits _ cs w hR (by omega) hwf hcap).mono ?_
    rintro e w1 ⟨n, rfl, hA⟩
    clear hR hwf hcap
    go_wp2_with fail
    refine (c_impl_GroupDigits n w1 (htab.below hA)).mono ?_
    rintro e w2 ⟨Y, rfl, hY, hB⟩
    replace hA := bthen hA hB
    clear hB htab
    go_wp2_with fail
    refine (c_spec_GroupDigits n w2).mono ?_
    rintro e w3 ⟨Z, rfl, hZ, hB⟩
    replace hA := bthen hA hB
    clear hB
    obtain rfl : Z = Y := hZ.inj hY
    clear hZ
    cases hin : inB n (-1000000000) 1000000000
    · have hF : grpF n = [] := by unfold grpF; rw [hin]; rfl
      have hnil : Z.toList = [] := by rw [toList_of hY, hF]
      have hF' : Hid (IsS Z (grpF n)) := hY
      clear hY hF
      go_wp2_with fail
      refine (c_spec_GroupDigits n w3).mono ?_
      rintro e w4 ⟨Y2, rfl, hY2, hB⟩
      replace hA := bthen hA hB
      obtain rfl : Y2 = Z := hY2.inj hF'.out
      clear hB hY2 hF'
      go_wp2
      go_ret
      exact ⟨rfl, hA⟩
    · obtain ⟨b1, b2⟩ := inB_iff.1 hin
      obtain ⟨m, P, hm9, hF, hP, hPn⟩ : ∃ (m : Nat) (P : List UInt8), m ≤ 1000000000 ∧ grpF n = P ++ grpN m ∧ (P = [] ∨ P = [45]) ∧ (P = [45] ↔ n < 0) := by
        by_cases hn : n < 0
        · exact ⟨(-n).toNat, [45], by omega, by unfold grpF; rw [hin, if_pos rfl, if_pos hn]; rfl, .inr rfl, by simp [hn]⟩
        · exact ⟨n.toNat, [], by omega, by unfold grpF; rw [hin, if_pos rfl, if_neg hn]; rfl, .inl rfl, by simp; omega⟩
      obtain ⟨hsh, hm4⟩ := grpN_shape m
      have hgl := grpN_len (n := m) (by omega)
      rw [hF] at hY
      generalize grpN m = G at hY hsh hm4 hgl
      have hYs := hY.size
      rw [List.length_append] at hYs
      have hP1 : P.length ≤ 1 := by rcases hP with h | h <;> rw [h] <;> simp
      have hn0 : Z.toList ≠ [] := fun e => by
        rw [toList_of hY] at e
        have := congrArg List.length e
        rw [List.length_append, List.length_nil] at this
        omega
      have hn1 : (Z.toList == []) = false := beq_eq_false_iff_ne.2 hn0
      have hn2 : Z.toList.isEmpty = false := by simpa using hn0
      have HYs : Hid (Z.size = P.length + G.length) := hYs
      have HY : Hid (IsS Z (P ++ G)) := hY
      have HPn : Hid (P = [45] ↔ n < 0) := hPn
      have HP : Hid (P = [] ∨ P = [45]) := hP
      have hZb : Z.size ≤ 40 := by omega
      have hZ1 : 1 ≤ Z.size := by omega
      clear hY hYs hn0 hF hPn hP hin
      go_wp2
      go_loop [5, 6] (fun d i => ∃ (k : Nat) (z : Int), k ≤ Z.size ∧ P.length ≤ k ∧ z = (k : Int) - 1 ∧ i = .int .i64 z ∧ d = .int .i64 ((Z.size - k : Nat) : Int)) (fun _ i => (intOf i + 1).toNat)
      case atStart => exact ⟨Z.size, _, Nat.le_refl _, by omega, rfl, rfl, by simp⟩
      case round =>
        obtain ⟨k, z, hk, hkP, hz, rfl, rfl⟩ := hrel
        by_cases hp : 0 < k
        · obtain ⟨j, rfl⟩ : ∃ j, k = j + 1 := ⟨k - 1, by omega⟩
          obtain rfl : z = (j : Int) := by omega
          have hjl : j < Z.size := by omega
          have hjL : j < (P ++ G).length := by rw [List.length_append, ← HYs.out]; exact hjl
          have hat : Z[j] = (P ++ G)[j] := HY.out.at_ hjl hjL
          obtain ⟨c, hc⟩ : ∃ c, Z[j] = c := ⟨_, rfl⟩
          rw [hc] at hat
          have HC : Hid (Z[j] = c) := hc
          have hcn : (Z[j].toNat : Int) = (c.toNat : Int) := by rw [hc]
          clear hz hc
          have q1 : (0 : Int) ≤ (j : Int) := by omega
          by_cases hjp : j < P.length
          · have hp45 : P = [45] := by
              rcases HP.out with h | h
              · rw [h] at hjp; simp at hjp
              · exact h
            have hn : n < 0 := HPn.out.1 hp45
            have hpl : P.length = 1 := by rw [hp45]; rfl
            obtain rfl : j = 0 := by omega
            have hc45 : c = 45 := by rw [hat, List.getElem_append_left hjp]; simp [hp45]
            have e32 : ((c.toNat : Int) == 32) = false := by rw [hc45]; rfl
            have e45 : ((c.toNat : Int) == 45) = true := by rw [hc45]; rfl
            have em : ((((Z.size - (0 + 1) : Nat) : Int) % 4) != 0) = true := by
              rw [bne_iff_ne]
              have := HYs.out
              omega
            clear hat hc45 hp45 hpl hjp
            go_wp2
            go_ret
            exact ⟨rfl, hA⟩
          · have hjG : j - P.length < G.length := by rw [List.length_append] at hjL; omega
            have hsa := shape_at hsh hjG
            have hat2 : c = G[j - P.length] := by rw [hat, List.getElem_append_right (by omega)]
            rw [← hat2] at hsa
            have hdd : G.length - 1 - (j - P.length) = Z.size - (j + 1) := by have := HYs.out; omega
            rw [hdd] at hsa
            obtain ⟨D, hD⟩ : ∃ D, Z.size - (j + 1) = D := ⟨_, rfl⟩
            have HD : Hid (Z.size - (j + 1) = D) := hD
            have hDb : D ≤ 40 := by omega
            rw [hD] at hsa ⊢
            clear hat hat2 hdd hD hjG
            by_cases h3 : D % 4 = 3
            · rw [if_pos h3] at hsa
              have e32 : ((c.toNat : Int) == 32) = true := by rw [hsa]; rfl
              have em : (((D : Int) % 4) != 3) = false := by simp; omega
              clear hsa h3
              go_wp2
              go_round
              case rel => exact ⟨j, _, by omega, by omega, rfl, rfl, by have := HD.out; go_num⟩
              case measure => simp [intOf]
            · rw [if_neg h3] at hsa
              obtain ⟨e32, e45⟩ := byte_facts hsa
              have em : (((D : Int) % 4) == 3) = false := beq_eq_false_iff_ne.2 (by omega)
              clear hsa h3
              go_wp2
              go_round
              case rel => exact ⟨j, _, by omega, by omega, rfl, rfl, by have := HD.out; go_num⟩
              case measure => simp [intOf]
        · obtain rfl : k = 0 := by omega
          have hz1 : z < 0 := by omega
          have hp0 : P = [] := List.eq_nil_of_length_eq_zero (by omega)
          have hn : (0 : Int) ≤ n := by
            have h := HPn.out
            rw [hp0] at h
            by_cases q : n < 0
            · exact absurd (h.2 q) (by simp)
            · omega
          have em : (((Z.size : Int) % 4) != 0) = true := by
            rw [bne_iff_ne]
            have := HYs.out
            rw [hp0, List.length_nil] at this
            omega
          clear hz hp0
          go_wp2
          go_ret
          exact ⟨rfl, hA⟩

theorem door_met_FnGroupedShape (os : Os) (args : Array Value) : laidMetH Tryd.prog Rows.fnGroupedShapeRow.laid ((World.doorLaid Tryd.prog 24 os).forCall (fun _ _ => 0) ⟨#[], args, []⟩).memory :=
  laidMetH_of_parts3 (fuel := 8) (laidMet_of_run' 8 (by kernel_rfl) (by kernel_rfl)) (by kernel_rfl) (by kernel_rfl)
set_option maxRecDepth 100000 in
theorem lifted_FnGroupedShape (os : Os) (started : os.Started) (H : Type) (enc : TypeId × Value → H) :
    ReturnsInHanded {} Tryd.checked os 4 .any (fun w args => (Rows.fnGroupedShapeSpec.pre enc Tryd.prog Tryd.f4 [] false w args ∧ laidMetH Tryd.prog Rows.fnGroupedShapeRow.laid w) ∧ sizedMet enc Tryd.prog Tryd.f4 (OpenSpec.ofChange Rows.fnGroupedShapeSpec) false w args)
      (Rows.fnGroupedShapeSpec.post enc Tryd.prog Tryd.f4 false true false false) := by
  refine returnsInHanded_of_change_and (C := Tryd.checked) (X := fun w _ => laidMetH Tryd.prog Rows.fnGroupedShapeRow.laid w) (fun _ _ _ hh h => h.of_heap hh) own started (by kernel_rfl) Tryd.func4
    (ChangeSpec.witness_shaped (enc := enc) (C := Tryd.checked) (os := os) (X := fun w _ => laidMetH Tryd.prog Rows.fnGroupedShapeRow.laid w) false (World.doorLaid Tryd.prog 24 os) #[.slice none 0 0] 8 rfl (World.shaped_of_RefB (by kernel_rfl) (by kernel_rfl)) (by kernel_rfl) (by kernel_rfl) (by kernel_rfl) (door_met_FnGroupedShape os _)) ?_
  intro W base args ds gs before hval0 hW _ _ hL _
  have hval : ∀ (j : Nat) t v, Tryd.f4.params[j]? = some t → args[j]? = some v → Value.okWide Tryd.prog W .any base t v := hval0
  have htab : TabW W := TabW.of_laid (by kernel_rfl) hL
  have hW' := hW
  obtain ⟨p, q, hA0, hV, rfl, hfz, hnd⟩ := hW
  have hA : DataW.TrodAll enc Tryd.prog W 0 (fun _ => true) true Tryd.f4.params.toList args.toList ds p := hA0
  rw [Tryd.params4] at hA hval
  obtain ⟨v0, vs0, d0, ds0, p0, q0, hargs, rfl, rfl, h0, r0⟩ := trodAll_cons hA
  obtain ⟨rfl, rfl, rfl⟩ := trodAll_nil r0
  obtain rfl : args = #[v0] := by cases args; simp_all
  obtain ⟨rfl, rfl⟩ := trodVars_none hV
  obtain ⟨l0, w0⟩ := open_bytes (hval 0 24 v0 rfl rfl) h0
  refine (walk_FnGroupedShape v0 l0 w0 htab).mono fun e W' ⟨he, hg⟩ => ?_
  subst he
  exact ⟨_, rfl, law_post laidOut hW' rfl (by kernel_rfl) rfl Tryd.underlying4 rfl rfl rfl rfl hg⟩
theorem factA_FnGroupedShape : factsA Tryd.prog 4 Tryd.f4 Rows.fnGroupedShapeSpec Rows.fnGroupedShapeRow = true := by kernel_rfl
theorem fact9_FnGroupedShape : (Rows.fnGroupedShapeRow.inPlace == Tryd.prog.inPlace 4) = true := by kernel_rfl
theorem fact10_FnGroupedShape : (Rows.fnGroupedShapeRow.unfollowed == Tryd.prog.unfollowed 4) = true := by kernel_rfl
theorem fact11_FnGroupedShape : (Rows.fnGroupedShapeRow.recurses == Tryd.prog.recurses 4) = true := by kernel_rfl
theorem fact12_FnGroupedShape : (Rows.fnGroupedShapeRow.named == Tryd.prog.varsNamed 4) = true := by kernel_rfl
theorem factB_FnGroupedShape : factsB Tryd.prog 4 Tryd.f4 Rows.fnGroupedShapeSpec Rows.fnGroupedShapeRow = true := by kernel_rfl
theorem factN_FnGroupedShape : Tryd.prog.funcNamed Rows.fnGroupedShapeRow.func = some 4 := by kernel_rfl
theorem proved_FnGroupedShape : Rows.FnGroupedShapeSaid :=
  OpenClaim.holds_of_wide 4 Tryd.f4 rfl rfl rfl rfl rfl rfl rfl ⟨rfl, rfl, rfl, rfl, rfl⟩ rfl rfl rfl rfl rfl factN_FnGroupedShape Tryd.func4 (closed_of factA_FnGroupedShape fact9_FnGroupedShape fact10_FnGroupedShape fact11_FnGroupedShape fact12_FnGroupedShape factB_FnGroupedShape rfl rfl rfl)
    (of_decide_eq_true (by kernel_rfl)) (by unfold Func.isWrapper; first | (rw [if_pos (by decide +kernel)]; kernel_rfl) | (rw [if_neg (by decide +kernel)]; exact ⟨rfl, rfl⟩))
    (fun os started H enc _ => lifted_FnGroupedShape os started H enc)
theorem card_FnGroupedShape : Rows.FnGroupedShapeCardSaid :=
  Claim7.holds_tied_plain_at .later [] [.data, .data, .data] true (true, "71f7101b11ee02e8d99db334f21187209fd23a12cbb4b6e53d4d3898accab604") false
    proved_FnGroupedShape (fun _ h => by cases h) (by kernel_rfl) (fun _ h => by cases h) fnGroupedShape_row_tie rfl ⟨rfl, rfl⟩ (by kernel_rfl) rfl
    (fun f fn hf hfn => by
      obtain rfl : f = 4 := Option.some.inj (factN_FnGroupedShape.symm.trans hf) |>.symm
      obtain rfl : fn = Tryd.f4 := (Option.some.inj (Tryd.func4.symm.trans hfn)).symm
      exact ⟨by kernel_rfl, fun j t ht => by
        rw [Tryd.params4] at ht
        have hm : t ∈ [24] := by simpa using Array.mem_of_getElem? ht
        have hall : ([24].all fun u => !Tryd.prog.wantsStandIn u) = true := by kernel_rfl
        exact (show Tryd.prog.wantsStandIn t = false by simpa using List.all_eq_true.1 hall t hm)⟩)
    (by kernel_rfl)
end Go.Proofs.YtihgbebdadpjaaaDoor
