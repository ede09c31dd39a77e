/- FnShorten: a column is restored from its shortened form, which begins with the whole first entry, and keeps all lengths and the last digits. The tables that the card lists are tied to the program's text by the given tie. -/
import Derived.Test.YthpchphncelkpaaDoorRest2
import Derived.Test.YthpchphncelkpaaDoorRestP2
import Derived.Test.YthpchphncelkpaaDoorDrawSh
import Derived.Test.YthpchphncelkpaaDoorDeT
import Derived.Test.YthpchphncelkpaaDoorTie
import Derived.Test.YthpchphncelkpaaDoorCards
import Derived.LaidMore
import Derived.Lay
import Derived.LaidSub
import Derived.MakeChecks
import Derived.Stop.Joined
import Derived.SevenTiedAt
namespace Go.Proofs.YthpchphncelkpaaDoor
set_option linter.unusedVariables false
open Go.ChangeShapes Go.WideShapes Go.ChangeAt Go.RowKit

theorem last_ne {s : ByteArray} (hb : s.size - 1 < s.size) (h : s.data.toList.getLast? ≠ some 32) : s[s.size - 1] ≠ 32 := by
  intro e
  apply h
  rw [List.getLast?_eq_getElem?, size_data, List.getElem?_eq_getElem (by rw [size_data]; exact hb)]
  exact congrArg some e
theorem keep2b {w1 wa wb : World} {b b' o o' : Nat} {v0 v1 : Value} (hb : b < w1.heap.size) (hb' : b' < w1.heap.size) (h : Below w1.heap.size w1 wa ∧ wa.cell? ⟨b, o, none⟩ = some v0 ∧ wa.cell? ⟨b', o', none⟩ = some v1) (k : Below wa.heap.size wa wb) :
    Below w1.heap.size w1 wb ∧ wb.cell? ⟨b, o, none⟩ = some v0 ∧ wb.cell? ⟨b', o', none⟩ = some v1 := by
  obtain ⟨h0, h1, h2⟩ := h
  have hs := h0.size
  obtain ⟨hc, _⟩ := bcell k
  exact ⟨bthen h0 k, by rw [hc _ _ (by omega)]; exact h1, by rw [hc _ _ (by omega)]; exact h2⟩

set_option maxHeartbeats 4000000 in
set_option maxRecDepth 100000 in
theorem walk_FnShorten (v : Value) (cs : List Int) {w : World} (hw : RdL w v (cs.map (Value.int .u8)) ∧ cs.length ≤ 9223372036854775807 ∧ (∀ n ∈ cs, (Lit.int .u8 n).wf = true) ∧ CapOk v) :
    Calls Tryd.prog 3 #[v] w fun e w' => e = .returned (.bool true) ∧ Below w.heap.size w w' := by
  obtain ⟨hR, hlen, hwf, hcap⟩ := hw
  have hR0 := hR
  obtain ⟨a, cap, rfl, hR1⟩ := hR0
  clear hR1
  simp only [List.length_map] at hR hcap ⊢
  by_cases hbig : 1048576 < cs.length
  · clear hR hcap hwf
    go_enter Tryd.func3, Tryd.ntmps3
    go_wp2
    go_ret
    exact ⟨rfl, Below.refl _ _⟩
  · go_enter Tryd.func3, Tryd.ntmps3
    go_wp2_with fail
    refine (c_DrawShortenColumn _ cs w hR (by omega) hwf hcap).mono ?_
    rintro e w0 ⟨vl, xs, rfl, o_l, hx1, hx2, hA⟩
    clear hR hwf hcap
    have r_l := owns_RdS o_l
    clear o_l
    obtain ⟨al, cl, rfl⟩ := RdS_form r_l
    go_wp2_with fail
    refine (c_impl_ShortenColumn _ xs _ r_l (by omega) (fun s h => by have := hx2 s h; omega)).mono ?_
    rintro e w1 ⟨vp, rfl, o_p, hB⟩
    replace r_l := RdS.kept r_l hB
    replace hA := bthen hA hB
    clear hB
    have r_p := owns_RdS o_p
    clear o_p
    go_wp2_with fail
    refine (c_spec_ShortenColumn _ xs _ r_l (by omega) (fun s h => by have := hx2 s h; omega)).mono ?_
    rintro e w2 ⟨vs, rfl, o_s, hB⟩
    replace r_l := RdS.kept r_l hB
    replace r_p := RdS.kept r_p hB
    replace hA := bthen hA hB
    clear hB
    have r_s := owns_RdS o_s
    clear o_s
    have hPl := shorF_len xs
    have hSE : Hid (shorF xs = shorF xs) := rfl
    have HCB : Hid (0 < (shorF xs).length → colsB xs = true) := fun h => by
      cases hc : colsB xs
      · unfold shorF at h; rw [hc] at h; simp at h
      · rfl
    have HG : Hid (0 < (shorF xs).length → (shorF xs).length = xs.length ∧ resF (shorF xs) = xs ∧ (shorF xs).getD 0 noS = xs.getD 0 noS ∧ ∀ k, k < xs.length → ((shorF xs).getD k noS).size = (xs.getD k noS).size ∧ 1 ≤ (xs.getD k noS).size ∧ ((shorF xs).getD k noS).data.toList.getLast? ≠ some 32) := fun h => by
      have hc := HCB.out h
      have hl : (shorF xs).length = xs.length := by unfold shorF; rw [if_pos hc]; simp
      refine ⟨hl, resF_shor hc, ?_, fun k hk => ?_⟩
      · rw [shorF_getD hc (by omega)]
        refine (shoE_is xs 0).inj ?_
        show _ = _
        unfold shoL shoN
        simp
      · rw [shorF_getD hc hk]; exact shoE_facts hc hk
    have HSZ : Hid (∀ s ∈ shorF xs, s.size ≤ 1048576) := fun s h => by
      have hc := HCB.out (List.length_pos_of_mem h)
      unfold shorF at h
      rw [if_pos hc] at h
      obtain ⟨k, hk, rfl⟩ := List.mem_map.1 h
      have hk2 : k < xs.length := by simpa using hk
      rw [(shoE_facts hc hk2).1]
      have := hx2 (xs.getD k noS) (by simp [List.getD, hk2])
      omega
    have HPP : Hid (∀ P, shorF xs = P → shorF xs = P) := fun _ h => h
    generalize hP : shorF xs = P at *
    have HPE : Hid (shorF xs = P) := hP
    clear hP HPP hSE HCB
    obtain ⟨ap, cp, rfl⟩ := RdS_form r_p
    go_wp2_with fail
    refine (c_deTexts_t _ _ P _ r_p r_s (by omega)).mono ?_
    rintro e w3 ⟨rfl, hB⟩
    replace r_l := RdS.kept r_l hB
    replace r_p := RdS.kept r_p hB
    replace r_s := RdS.kept r_s hB
    replace hA := bthen hA hB
    clear hB
    by_cases h0 : 0 < P.length
    · have h00 : ((P.length : Int) == 0) = false := beq_eq_false_iff_ne.2 (by omega)
      have HG2 : Hid _ := HG.out h0
      clear r_s
      go_wp2_with fail
      refine (c_impl_RestoreColumn _ P _ r_p (by omega) (fun s h => HSZ.out s h)).mono ?_
      rintro e w4 ⟨vb, rfl, o_b, hB⟩
      replace r_l := RdS.kept r_l hB
      replace r_p := RdS.kept r_p hB
      replace hA := bthen hA hB
      clear hB
      have r_b := owns_RdS o_b
      clear o_b
      rw [HG2.out.2.1] at r_b
      go_wp2
      go_loopw [6] (fun i wr => ∃ k : Nat, k ≤ P.length ∧ i = .int .i64 k ∧ Below w4.heap.size w4 wr) (fun i _ => P.length - (intOf i).toNat)
      case atStart => exact ⟨0, by omega, rfl, Below.refl _ _⟩
      case round =>
        obtain ⟨k, hk, rfl, hB⟩ := hrel
        have hPx := HG2.out.1
        by_cases hlt : k < P.length
        · have hkx : k < xs.length := by omega
          obtain ⟨bp, op, rfl, hbp, e1⟩ := RdS_cell r_p hB hlt
          obtain ⟨bl, ol, rfl, hbl, e3⟩ := RdS_cell r_l hB hkx
          obtain ⟨f1, f2, f3⟩ := HG2.out.2.2.2 k hkx
          have hy200 : (xs.getD k noS).size ≤ 200 := hx2 _ (by simp [List.getD, hkx])
          obtain ⟨p, hpe⟩ : ∃ p, P.getD k noS = p := ⟨_, rfl⟩
          obtain ⟨y, hye⟩ : ∃ y, xs.getD k noS = y := ⟨_, rfl⟩
          rw [hpe] at e1 f1 f3
          rw [hye] at e3 f1 f2 hy200
          have hp200 : p.size ≤ 200 := by omega
          have hp1 : 1 ≤ p.size := by omega
          have q1 : p.size - 1 < p.size := by omega
          have hne := last_ne q1 f3
          have et : ((p[p.size - 1].toNat : Int) == 32) = false := beq_eq_false_iff_ne.2 (fun q => hne (UInt8.toNat_inj.1 (by show _ = 32; omega)))
          have hq : ((p.size : Int) == (y.size : Int)) = true := beq_iff_eq.2 (by omega)
          have hq' : ((p.size : Int) != (y.size : Int)) = false := by simp; omega
          have hwa : IntKind.i64.wrap ((p.size : Int) - 1) = ((p.size - 1 : Nat) : Int) := by rw [IntWalk.i64_in _ (by omega)]; omega
          have hwc : (p.size : Int) - 1 = ((p.size - 1 : Nat) : Int) := by omega
          have j1 : (0 : Int) ≤ ((p.size - 1 : Nat) : Int) := by omega
          have j2 : ((p.size - 1 : Nat) : Int) < (p.size : Int) := by omega
          have i1 : (0 : Int) ≤ (k : Int) := by omega
          have i2 : (k : Int) < (P.length : Int) := by omega
          have i4 : (k : Int) < (xs.length : Int) := by omega
          clear hpe hye f1 f2 f3 hne hPx r_l r_p r_b
          go_wp2
          go_quiet (fail)
          go_wp2
          go_roundw
          case rel => exact ⟨k + 1, by omega, by go_num, below_drewN hB _⟩
          case measure => simp [intOf]; omega
        · have hd := c_deTexts_t _ _ xs wr.drew (RdS.kept r_b hB.drew) (RdS.kept r_l hB.drew) (by omega)
          have hx0 : 0 < xs.length := by omega
          obtain ⟨bp, op, rfl, hbp, e1⟩ := RdS_cell r_p hB h0
          obtain ⟨bl, ol, rfl, hbl, e3⟩ := RdS_cell r_l hB hx0
          rw [HG2.out.2.2.1] at e1
          obtain ⟨y, hye⟩ : ∃ y, xs.getD 0 noS = y := ⟨_, rfl⟩
          rw [hye] at e1 e3
          simp only [Nat.add_zero] at e1 e3
          have hsz := hB.size
          have hlp : bp < wr.heap.size := by omega
          have hll : bl < wr.heap.size := by omega
          have hbb := str_beq y
          replace hA := bthen hA hB
          have hk0 : Below wr.drew.heap.size wr.drew wr.drew ∧ wr.drew.cell? ⟨bp, op, none⟩ = some (.string y) ∧ wr.drew.cell? ⟨bl, ol, none⟩ = some (.string y) := ⟨Below.refl _ _, e1, e3⟩
          have i3 : (0 : Int) < (P.length : Int) := by omega
          have i5 : (0 : Int) < (xs.length : Int) := by omega
          clear hye hB hPx r_b
          go_wp2
          go_region_held3 (fun wx => Below wr.drew.heap.size wr.drew wx ∧ wx.cell? ⟨bp, op, none⟩ = some (.string y) ∧ wx.cell? ⟨bl, ol, none⟩ = some (.string y)) (first | assumption | exact hk0 | exact keep2b hlp hll hk0 (by assumption))
            (first | (go_at_call 15; refine hd.mono ?_; rintro e wz ⟨rfl, hBz⟩))
          rename_i hS
          have hA2 := bthen hA.drew hS.1
          clear hk0 hS hd e1 e3
          go_wp2
          go_ret
          exact ⟨rfl, hA2⟩
    · have h00 : ((P.length : Int) == 0) = true := beq_iff_eq.2 (by omega)
      go_wp2_with fail
      refine (c_spec_ShortenColumn _ xs _ r_l (by omega) (fun s h => by have := hx2 s h; omega)).mono ?_
      rintro e w4 ⟨vs2, rfl, o_s2, hB⟩
      replace r_l := RdS.kept r_l hB
      replace r_p := RdS.kept r_p hB
      replace r_s := RdS.kept r_s hB
      replace hA := bthen hA hB
      clear hB
      have r_s2 := owns_RdS o_s2
      clear o_s2
      rw [HPE.out] at r_s2
      go_wp2_with fail
      refine (c_deTexts_t _ _ P _ r_p r_s2 (by omega)).mono ?_
      rintro e w5 ⟨rfl, hB⟩
      replace r_l := RdS.kept r_l hB
      replace r_p := RdS.kept r_p hB
      replace r_s := RdS.kept r_s hB
      replace r_s2 := RdS.kept r_s2 hB
      replace hA := bthen hA hB
      clear hB
      go_wp2
      go_ret
      exact ⟨rfl, hA⟩

set_option maxRecDepth 100000 in
theorem lifted_FnShorten (os : Os) (started : os.Started) (H : Type) (enc : TypeId × Value → H) :
    ReturnsInHanded {} Tryd.checked os 3 .any (fun w args => (Rows.fnShortenSpec.pre enc Tryd.prog Tryd.f3 [] false w args ∧ laidMetH Tryd.prog Rows.fnShortenRow.laid w) ∧ sizedMet enc Tryd.prog Tryd.f3 (OpenSpec.ofChange Rows.fnShortenSpec) false w args)
      (Rows.fnShortenSpec.post enc Tryd.prog Tryd.f3 false true false false) := by
  refine returnsInHanded_of_change_and (C := Tryd.checked) (X := fun w _ => laidMetH Tryd.prog Rows.fnShortenRow.laid w) (fun _ _ _ hh h => h.of_heap hh) own started (by kernel_rfl) Tryd.func3
    (ChangeSpec.witness_shaped (enc := enc) (C := Tryd.checked) (os := os) (X := fun w _ => laidMetH Tryd.prog Rows.fnShortenRow.laid w) false (World.laidAll Tryd.prog os Rows.fnShortenRow.laid) #[.slice none 0 0] 8 (World.laidAll_os _ _ _)
      (World.shaped_of_ZipB (by kernel_rfl) (by kernel_rfl)) (by kernel_rfl) (by kernel_rfl) (by kernel_rfl) (by rw [MakeChecks.laidMetH_plain _ _ _ (by kernel_rfl)]; exact laidMet_laidAll _ (by kernel_rfl) (by kernel_rfl))) ?_
  intro W base args ds gs before hval0 hW _ _ hL _
  have hval : ∀ (j : Nat) t v, Tryd.f3.params[j]? = some t → args[j]? = some v → Value.okWide Tryd.prog W .any base t v := hval0
  have hW' := hW
  obtain ⟨p, q, hA0, hV, rfl, hfz, hnd⟩ := hW
  have hA : DataW.TrodAll enc Tryd.prog W 0 (fun _ => true) true Tryd.f3.params.toList args.toList ds p := hA0
  rw [Tryd.params3] at hA hval
  obtain ⟨v0, vs0, d0, ds0, p0, q0, hargs, rfl, rfl, h0, r0⟩ := trodAll_cons hA
  obtain ⟨rfl, rfl, rfl⟩ := trodAll_nil r0
  obtain rfl : args = #[v0] := by cases args; simp_all
  obtain ⟨rfl, rfl⟩ := trodVars_none hV
  obtain ⟨l0, w0⟩ := open_bytes (hval 0 22 v0 rfl rfl) h0
  refine (walk_FnShorten v0 l0 w0).mono fun e W' ⟨he, hg⟩ => ?_
  subst he
  exact ⟨_, rfl, law_post laidOut hW' rfl (by kernel_rfl) rfl Tryd.underlying4 rfl rfl rfl rfl hg⟩
theorem factA_FnShorten : factsA Tryd.prog 3 Tryd.f3 Rows.fnShortenSpec Rows.fnShortenRow = true := by kernel_rfl
theorem fact9_FnShorten : (Rows.fnShortenRow.inPlace == Tryd.prog.inPlace 3) = true := by kernel_rfl
theorem fact10_FnShorten : (Rows.fnShortenRow.unfollowed == Tryd.prog.unfollowed 3) = true := by kernel_rfl
theorem fact11_FnShorten : (Rows.fnShortenRow.recurses == Tryd.prog.recurses 3) = true := by kernel_rfl
theorem fact12_FnShorten : (Rows.fnShortenRow.named == Tryd.prog.varsNamed 3) = true := by kernel_rfl
theorem factB_FnShorten : factsB Tryd.prog 3 Tryd.f3 Rows.fnShortenSpec Rows.fnShortenRow = true := by kernel_rfl
theorem factN_FnShorten : Tryd.prog.funcNamed Rows.fnShortenRow.func = some 3 := by kernel_rfl
theorem proved_FnShorten : Rows.FnShortenSaid :=
  OpenClaim.holds_of_wide 3 Tryd.f3 rfl rfl rfl rfl rfl rfl rfl ⟨rfl, rfl, rfl, rfl, rfl⟩ rfl rfl rfl rfl rfl factN_FnShorten Tryd.func3 (closed_of factA_FnShorten fact9_FnShorten fact10_FnShorten fact11_FnShorten fact12_FnShorten factB_FnShorten rfl rfl rfl)
    (of_decide_eq_true (by kernel_rfl)) (by unfold Func.isWrapper; first | (rw [if_pos (by decide +kernel)]; kernel_rfl) | (rw [if_neg (by decide +kernel)]; exact ⟨rfl, rfl⟩))
    (fun os started H enc _ => lifted_FnShorten os started H enc)
theorem card_FnShorten : Rows.FnShortenCardSaid :=
  Claim7.holds_tied_plain_at .later [] [.data, .pinned] true (true, "bc6ca8dfee119a1eb64999733c4ff5f625e0ee3f9493a39b5d121a8fe50f1854") true
    proved_FnShorten (fun _ h => by cases h) (by kernel_rfl) (fun _ h => by cases h) fnShorten_row_tie rfl ⟨rfl, rfl⟩ (by kernel_rfl) rfl
    (fun f fn hf hfn => by
      obtain rfl : f = 3 := Option.some.inj (factN_FnShorten.symm.trans hf) |>.symm
      obtain rfl : fn = Tryd.f3 := (Option.some.inj (Tryd.func3.symm.trans hfn)).symm
      exact ⟨by kernel_rfl, fun j t ht => by
        rw [Tryd.params3] at ht
        have hm : t ∈ [22] := by simpa using Array.mem_of_getElem? ht
        have hall : ([22].all fun u => !Tryd.prog.wantsStandIn u) = true := by kernel_rfl
        exact (show Tryd.prog.wantsStandIn t = false by simpa using List.all_eq_true.1 hall t hm)⟩)
    (by kernel_rfl)

end Go.Proofs.YthpchphncelkpaaDoor
