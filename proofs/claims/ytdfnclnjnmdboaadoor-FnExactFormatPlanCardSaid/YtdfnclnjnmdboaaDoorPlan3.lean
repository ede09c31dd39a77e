/- Contracts: plans are valid; program and reference. -/
import Derived.Test.YtdfnclnjnmdboaaDoorPlan2
namespace Go.Proofs.YtdfnclnjnmdboaaDoor
set_option linter.unusedVariables false
open Go.RowKit

theorem segB_iff {s : Seg} (h : segB s = true) : 1 ≤ s.1 ∧ s.1 ≤ 60 ∧ polyB s.2 = true ∧ tabB (vals s.2 s.1.toNat) = true := by
  unfold segB polyS at h
  simp only [Bool.and_eq_true] at h
  obtain ⟨h1, h2, h3⟩ := h
  have := cntB_iff.1 h1
  exact ⟨this.1, this.2, h2, h3⟩
theorem planB_iff {pl : List Seg} : planB pl = true ↔ 1 ≤ pl.length ∧ pl.all segB = true ∧ totG pl ≤ 60 := by
  unfold planB; simp only [Bool.and_eq_true, decide_eq_true_eq]; exact ⟨fun ⟨⟨a, b⟩, c⟩ => ⟨a, b, c⟩, fun ⟨a, b, c⟩ => ⟨⟨a, b⟩, c⟩⟩
theorem segB_cnt : ∀ pl : List Seg, pl.all segB = true → pl.all cntB = true
  | [], _ => rfl
  | s :: l, h => by
    simp only [List.all_cons, Bool.and_eq_true] at h ⊢
    refine ⟨?_, segB_cnt l h.2⟩
    unfold segB at h
    simp only [Bool.and_eq_true] at h
    exact h.1.1
theorem planB_len {pl : List Seg} (h : planB pl = true) : pl.length ≤ 60 := by
  obtain ⟨_, h2, h3⟩ := planB_iff.1 h
  have := (tot_bd pl (segB_cnt pl h2)).1
  omega
theorem tot_take_le {pl : List Seg} (h : pl.all cntB = true) (k : Nat) : totG (pl.take k) ≤ totG pl := by
  have e : totG pl = totG (pl.take k) + totG (pl.drop k) := by rw [← tot_append, List.take_append_drop]
  have h2 : (pl.drop k).all cntB = true := List.all_eq_true.2 fun x hx => List.all_eq_true.1 h x (List.mem_of_mem_drop hx)
  have := (tot_bd _ h2).1
  omega
theorem planB_no_seg {pl : List Seg} {k : Nat} (hk : k < pl.length) (h : segB (pl.getD k noG) = false) : planB pl = false := by
  cases e : planB pl
  · rfl
  · rw [all_getG (planB_iff.1 e).2.1 hk] at h; cases h
theorem planB_no_tot {pl : List Seg} {k : Nat} (h : 60 < totG (pl.take k)) : planB pl = false := by
  cases e : planB pl
  · rfl
  · obtain ⟨_, h2, h3⟩ := planB_iff.1 e
    have := tot_take_le (segB_cnt pl h2) k
    omega

set_option maxRecDepth 20000 in
set_option maxHeartbeats 400000 in
theorem c_impl_PlanValid (v : Value) (pl : List Seg) (w : World) (ha : RdP w v pl) (hx : pl.length ≤ 1099511627776) (hpx : ∀ s ∈ pl, s.2.length ≤ 1099511627776) :
    Calls Tryd.prog 19 #[v] w fun e w' => e = .returned (.bool (planB pl)) ∧ Below w.heap.size w w' := by
  obtain ⟨a, cap, rfl, hcap⟩ := ha.form
  have HPX := hidd hpx
  clear hpx
  go_enter Tryd.func19, Tryd.ntmps19
  go_wp2
  go_loopw [3, 8] (fun n i wr => ∃ k : Nat, k ≤ pl.length ∧ i = .int .i64 k ∧ n = .int .i64 (totG (pl.take k)) ∧ totG (pl.take k) ≤ 60 ∧ (pl.take k).all segB = true ∧ Below w.heap.size w wr) (fun _ i _ => pl.length - (intOf i).toNat)
  case atStart => exact ⟨0, by omega, rfl, rfl, by simp [totG], rfl, Below.refl _ _⟩
  case round =>
    obtain ⟨k, hk, rfl, rfl, ht60, hA, hB⟩ := hrel
    have ht0 := (tot_bd _ (segB_cnt _ hA)).1
    rw [List.length_take] at ht0
    have HA := hidd hA
    clear hA
    by_cases hlt : k < pl.length
    · obtain ⟨b, o, pa, pn, pc, rfl, hb, e1, e2, hp, hpc, hpn⟩ := ha.cell hB hlt
      have HTS := hidd (tot_take_succ pl k hlt)
      have HAS := hidd (all_take_succG segB pl k hlt)
      have HNo : Hid (segB (pl.getD k noG) = false → planB pl = false) := fun h => planB_no_seg hlt h
      have HNt : Hid (60 < totG (pl.take (k + 1)) → planB pl = false) := fun h => planB_no_tot h
      have hpl := HPX.out (pl.getD k noG) (by simp [List.getD, hlt])
      obtain ⟨s, hs⟩ : ∃ s, pl.getD k noG = s := ⟨_, rfl⟩
      rw [hs] at e1 HTS HAS HNo hp hpl
      obtain ⟨t, ht⟩ : ∃ t, totG (pl.take k) = t := ⟨_, rfl⟩
      rw [ht] at ht0 ht60 HTS ⊢
      obtain ⟨c, p⟩ := s
      have hbs := hB.size
      have hpw : RdI (wr.alloc (.cells #[.int .i64 c, .slice pa pn pc] 39)) (.slice pa pn pc) p := hp.kept (hB.alloc (Nat.le_trans (Nat.le_refl _) hB.size) _)
      have HSV := hidd (c_segmentValid c (.slice pa pn pc) p (wr.alloc (.cells #[.int .i64 c, .slice pa pn pc] 39)) hpw hpl)
      have i1 : (0 : Int) ≤ (k : Int) := by omega
      have i2 : (k : Int) < (pl.length : Int) := by omega
      clear hp hpc hpn ha hs ht hpw hpl
      cases hi : segB (c, p)
      · have HE : Hid (planB pl = false) := HNo.out hi
        go_wp2_with fail
        refine HSV.out.mono ?_
        rw [hi]
        rintro e w2 ⟨rfl, hB2⟩
        have HB := hidd (bthen (hB.alloc hB.size _) hB2)
        clear hB hB2
        go_wp2
        go_ret
        exact ⟨ret_bool HE.out.symm, HB.out⟩
      · obtain ⟨c1, c2, _, _⟩ := segB_iff hi
        go_wp2_with fail
        refine HSV.out.mono ?_
        rw [hi]
        rintro e w2 ⟨rfl, hB2⟩
        have e5 : w2.cell? ⟨wr.heap.size, 0, none⟩ = some (.int .i64 c) := by rw [hB2.cell (p := ⟨wr.heap.size, 0, none⟩) (by simp)]; simp [go_sem]
        have HB := hidd (bthen (hB.alloc hB.size _) hB2)
        clear hB hB2
        have c1' : 1 ≤ c := c1
        have c2' : c ≤ 60 := c2
        by_cases h60 : 60 < t + c
        · have HE : Hid (planB pl = false) := HNt.out (by rw [HTS.out]; exact h60)
          go_wp2
          go_ret
          exact ⟨ret_bool HE.out.symm, HB.out⟩
        · have HE : Hid ((pl.take (k + 1)).all segB = true) := by show _ = _; rw [HAS.out, HA.out, hi]; rfl
          go_wp2
          go_roundw
          case rel => exact ⟨k + 1, by omega, by go_num, by rw [HTS.out], by rw [HTS.out]; show t + c ≤ 60; omega, HE.out, HB.out⟩
          case measure => simp [intOf]; omega
    · have HE : Hid (planB pl = decide (1 ≤ (pl.length : Int))) := by
        have h := HA.out
        show _ = _
        rw [List.take_of_length_le (by omega)] at h ht60
        unfold planB
        rw [h, decide_eq_true ht60, Bool.and_true, Bool.and_true]
        congr 1
        rw [eq_iff_iff]
        omega
      clear ha ht60 ht0
      by_cases h1 : (1 : Int) ≤ (pl.length : Int)
      · have HE2 : Hid (planB pl = true) := by show _ = _; rw [HE.out, decide_eq_true h1]
        go_wp2
        go_ret
        exact ⟨ret_bool HE2.out.symm, hB⟩
      · have HE2 : Hid (planB pl = false) := by show _ = _; rw [HE.out, decide_eq_false h1]
        have h1' : pl.length = 0 := by omega
        go_wp2
        go_ret
        exact ⟨ret_bool HE2.out.symm, hB⟩

set_option maxRecDepth 20000 in
theorem c_spec_PolyValid_q (v : Value) (p : List Int) (w : World) (ha : RdI w v p) (hx : p.length ≤ 1099511627776) :
    Calls Tryd.prog 35 #[v] w fun e w' => e = .returned (.bool (polyB p)) ∧ w = w' := by
  have ha0 := ha
  obtain ⟨a, cap, rfl, ha1⟩ := ha0
  clear ha1
  simp only [List.length_map] at ha ⊢
  go_enter Tryd.func35, Tryd.ntmps35
  go_wp2
  go_loop [3] (fun i => ∃ k : Nat, k ≤ p.length ∧ i = .int .i64 k ∧ allIn (p.take k) 100000 = true) (fun i => p.length - (intOf i).toNat)
  case atStart => exact ⟨0, by omega, rfl, rfl⟩
  case round =>
    obtain ⟨k, hk, rfl, hA⟩ := hrel
    have HA : Hid (allIn (p.take k) 100000 = true) := hA
    clear hA
    by_cases hlt : k < p.length
    · obtain ⟨b1, o1, rfl, hb1, e1⟩ := RdI_cell ha (Below.refl _ _) hlt
      obtain ⟨x, hx1⟩ : ∃ x, p.getD k 0 = x := ⟨_, rfl⟩
      rw [hx1] at e1
      cases hi : inB x (-100000) 100000
      · have HO : Hid (polyB p = false) := by
          have h : allIn p 100000 = false := allIn_not hlt (by rw [hx1]; exact hi)
          show _ = _
          unfold polyB; rw [h, Bool.and_false]
        clear hx1 ha
        go_wp2_with (first | (go_at_call 33; refine (c_l1In _ _ _ _).mono ?_; rintro e w' ⟨rfl, rfl⟩))
        go_ret
        exact ⟨ret_bool HO.out.symm, rfl⟩
      · have HO : Hid (allIn (p.take (k + 1)) 100000 = true) := by show _ = _; rw [allIn_take p _ k hlt, HA.out, hx1, hi]; rfl
        clear hx1 ha
        go_wp2_with (first | (go_at_call 33; refine (c_l1In _ _ _ _).mono ?_; rintro e w' ⟨rfl, rfl⟩))
        go_round
        case rel => exact ⟨k + 1, by omega, by go_num, HO.out⟩
        case measure => simp [intOf]; omega
    · have HO : Hid (polyB p = inB p.length 1 7) := by
        have h := HA.out
        rw [List.take_of_length_le (by omega)] at h
        show _ = _
        unfold polyB; rw [h, Bool.and_true]
      clear ha
      go_wp2_with (first | (go_at_call 33; refine (c_l1In _ _ _ _).mono ?_; rintro e w' ⟨rfl, rfl⟩))
      go_ret
      exact ⟨ret_bool HO.out.symm, rfl⟩

theorem keep2b {w wa wb : World} {b o o' : Nat} {v0 v1 : Value} (hb : b < w.heap.size) (h : Below w.heap.size w wa ∧ wa.cell? ⟨b, o, none⟩ = some v0 ∧ wa.cell? ⟨b, o', none⟩ = some v1) (k : Below wa.heap.size wa wb) :
    Below w.heap.size w wb ∧ wb.cell? ⟨b, o, none⟩ = some v0 ∧ wb.cell? ⟨b, o', none⟩ = some v1 := by
  obtain ⟨h0, h1, h2⟩ := h
  have hs := h0.size
  obtain ⟨hc, _⟩ := bcell k
  exact ⟨bthen h0 k, by rw [hc _ _ (by omega)]; exact h1, by rw [hc _ _ (by omega)]; exact h2⟩
set_option maxRecDepth 20000 in
set_option maxHeartbeats 800000 in
theorem c_spec_PlanValid (v : Value) (pl : List Seg) (w : World) (ha : RdP w v pl) (hx : pl.length ≤ 1099511627776) (hpx : ∀ s ∈ pl, s.2.length ≤ 1099511627776) :
    Calls Tryd.prog 15 #[v] w fun e w' => e = .returned (.bool (planB pl)) ∧ Below w.heap.size w w' := by
  obtain ⟨a, cap, rfl, hcap⟩ := ha.form
  have HPX := hidd hpx
  clear hpx
  by_cases h60 : 60 < pl.length
  · have HE : Hid (planB pl = false) := by
      show _ = _
      cases e : planB pl
      · rfl
      · have := planB_len e; omega
    clear ha
    go_enter Tryd.func15, Tryd.ntmps15
    go_wp2
    go_ret
    exact ⟨ret_bool HE.out.symm, Below.refl _ _⟩
  · have hx60 : pl.length ≤ 60 := by omega
    have HL := hidd (c_l5Length _ pl w ha hx60)
    cases hin : inB (lenF pl) 1 60
    · have HE : Hid (planB pl = false) := by
        show _ = _
        cases e : planB pl
        · rfl
        · obtain ⟨h1, h2, h3⟩ := planB_iff.1 e
          have hc := segB_cnt pl h2
          have hb := tot_bd pl hc
          unfold lenF at hin
          rw [if_pos hc, inB_t (by omega) h3] at hin
          cases hin
      obtain ⟨N, hN⟩ : ∃ N, lenF pl = N := ⟨_, rfl⟩
      rw [hN] at HL hin
      clear hN ha
      go_enter Tryd.func15, Tryd.ntmps15
      go_wp2_with fail
      refine HL.out.mono ?_
      rintro e w1 ⟨rfl, hB1⟩
      go_wp2_with (go_at_call 33; refine (c_l1In _ _ _ _).mono ?_; rw [hin]; rintro e w' ⟨rfl, rfl⟩)
      go_ret
      exact ⟨ret_bool HE.out.symm, hB1⟩
    · have HCT : Hid (pl.all cntB = true ∧ totG pl ≤ 60 ∧ 1 ≤ pl.length) := by
        show _ ∧ _
        unfold lenF at hin
        by_cases hc : pl.all cntB = true
        · rw [if_pos hc] at hin
          have hb := tot_bd pl hc
          have := inB_iff.1 hin
          refine ⟨hc, this.2, ?_⟩
          cases pl with
          | nil => simp [totG] at this
          | cons s l => simp
        · rw [if_neg hc] at hin; simp [inB] at hin
      obtain ⟨N, hN⟩ : ∃ N, lenF pl = N := ⟨_, rfl⟩
      rw [hN] at HL hin
      clear hN
      go_enter Tryd.func15, Tryd.ntmps15
      go_wp2_with fail
      refine HL.out.mono ?_
      rintro e w1 ⟨rfl, hB1⟩
      go_wp2_with (go_at_call 33; refine (c_l1In _ _ _ _).mono ?_; rw [hin]; rintro e w' ⟨rfl, rfl⟩)
      clear hin
      go_loopw [3] (fun i wr => ∃ k : Nat, k ≤ pl.length ∧ i = .int .i64 k ∧ (pl.take k).all segB = true ∧ Below w.heap.size w wr) (fun i _ => pl.length - (intOf i).toNat)
      case atStart => exact ⟨0, by omega, rfl, rfl, hB1⟩
      case round =>
        obtain ⟨k, hk, rfl, hA, hB⟩ := hrel
        have HA := hidd hA
        clear hA hB1
        by_cases hlt : k < pl.length
        · obtain ⟨b, o, pa, pn, pc, rfl, hb, e1, e2, hp, hpc, hpn⟩ := ha.cell hB hlt
          have HAS := hidd (all_take_succG segB pl k hlt)
          have HNo : Hid (segB (pl.getD k noG) = false → planB pl = false) := fun h => planB_no_seg hlt h
          have hpl := HPX.out (pl.getD k noG) (by simp [List.getD, hlt])
          have hcnt := cntB_iff.1 (all_getG HCT.out.1 hlt)
          obtain ⟨s, hs⟩ : ∃ s, pl.getD k noG = s := ⟨_, rfl⟩
          rw [hs] at e1 HAS HNo hp hpl hcnt
          obtain ⟨c, p⟩ := s
          obtain ⟨c1, c2⟩ := hcnt
          obtain ⟨C, rfl⟩ : ∃ C : Nat, c = C := ⟨c.toNat, by have : 1 ≤ c := c1; omega⟩
          have hC60 : C ≤ 60 := by have : (C : Int) ≤ 60 := c2; omega
          have i1 : (0 : Int) ≤ (k : Int) := by omega
          have i2 : (k : Int) < (pl.length : Int) := by omega
          have E : Hid (segB ((C : Int), p) = (polyB p && tabB (vals p C))) := by
            show _ = _
            unfold segB polyS; rw [cntB_iff.2 ⟨c1, c2⟩]; rfl
          have hk0 : Below w.heap.size w wr.drew ∧ wr.drew.cell? ⟨b, o + k * 2, none⟩ = some (.int .i64 ((C : Int))) ∧ wr.drew.cell? ⟨b, o + k * 2 + 1, none⟩ = some (.slice pa pn pc) := ⟨hB.drew, e1, e2⟩
          have HPV : Hid (∀ W, (Below w.heap.size w W ∧ W.cell? ⟨b, o + k * 2, none⟩ = some (.int .i64 ((C : Int))) ∧ W.cell? ⟨b, o + k * 2 + 1, none⟩ = some (.slice pa pn pc)) → Calls Tryd.prog 35 #[.slice pa pn pc] W fun e w' => e = .returned (.bool (polyB p)) ∧ Below W.heap.size W w') :=
            fun W h => c_spec_PolyValid _ p W (hp.kept h.1) hpl
          have HLV : Hid (polyB p = true → ∀ W, (Below w.heap.size w W ∧ W.cell? ⟨b, o + k * 2, none⟩ = some (.int .i64 ((C : Int))) ∧ W.cell? ⟨b, o + k * 2 + 1, none⟩ = some (.slice pa pn pc)) → Calls Tryd.prog 37 #[.slice pa pn pc, (.int .i64 (0)), (.int .i64 (1)), (.int .i64 ((C : Int)))] W (FreshI W (vals p C))) :=
            fun hv W h => c_l2Values _ p 0 C W (hp.kept h.1) (polyB_ok hv) (by omega)
          have HVL := hidd (vals_len p C)
          have hpk := hidd hp
          have hpl' := hidd hpl
          clear hs hp hpc hpn hpl ha
          cases hpv : polyB p
          · have HE : Hid (planB pl = false) := HNo.out (by rw [E.out, hpv]; rfl)
            have HPQ : Hid (∀ (W : World) n, Below w.heap.size w (W.drewN n) → Calls Tryd.prog 35 #[.slice pa pn pc] (W.drewN n) fun e w' => e = .returned (.bool false) ∧ W.drewN n = w') := fun W n h => by
              have := c_spec_PolyValid_q _ p _ (hpk.out.kept h) hpl'.out
              rwa [hpv] at this
            go_wp2
            go_quiet ((go_at_call 35; exact quiet_l (HPQ.out _ _ (below_drewN hB _))))
            go_wp2
            go_ret
            exact ⟨ret_bool HE.out.symm, below_drewN hB _⟩
          · have HLV2 := hidd (HLV.out hpv)
            obtain ⟨V, hV⟩ : ∃ V, vals p C = V := ⟨_, rfl⟩
            have HE : Hid (segB ((C : Int), p) = tabB V) := by show _ = _; rw [E.out, hpv, hV]; rfl
            rw [hV] at HLV2 HVL
            rw [hpv] at HPV
            have HTV : Hid (∀ u W B, OwnI W B u V → Calls Tryd.prog 36 #[u] W fun e w' => e = .returned (.bool (tabB V)) ∧ Below W.heap.size W w') :=
              fun u W B h => c_spec_TableValid u V W (owns_RdI h) (by rw [HVL.out]; omega)
            clear hV HLV hpv E
            cases hi : tabB V
            · have HE2 : Hid (planB pl = false) := HNo.out (by rw [HE.out, hi])
              rw [hi] at HTV
              go_wp2
              go_region_held3 (fun wx => Below w.heap.size w wx ∧ wx.cell? ⟨b, o + k * 2, none⟩ = some (.int .i64 ((C : Int))) ∧ wx.cell? ⟨b, o + k * 2 + 1, none⟩ = some (.slice pa pn pc)) (first | assumption | exact hk0 | exact keep2b hb (by assumption) (by assumption))
                (first | (go_at_call 35; refine (HPV.out _ (by assumption)).mono ?_; rintro e w2 ⟨rfl, hb2⟩) | (go_at_call 37; refine (HLV2.out _ (by assumption)).mono ?_; rintro e w3 ⟨u, rfl, ho, hb3⟩) | (go_at_call 36; refine (HTV.out _ _ _ (by assumption)).mono ?_; rintro e w4 ⟨rfl, hb4⟩))
              rename_i hS
              have HB := hidd hS.1
              clear hS
              go_wp2
              go_ret
              exact ⟨ret_bool HE2.out.symm, HB.out⟩
            · have HE2 : Hid ((pl.take (k + 1)).all segB = true) := by show _ = _; rw [HAS.out, HA.out, HE.out, hi]; rfl
              rw [hi] at HTV
              go_wp2
              go_region_held3 (fun wx => Below w.heap.size w wx ∧ wx.cell? ⟨b, o + k * 2, none⟩ = some (.int .i64 ((C : Int))) ∧ wx.cell? ⟨b, o + k * 2 + 1, none⟩ = some (.slice pa pn pc)) (first | assumption | exact hk0 | exact keep2b hb (by assumption) (by assumption))
                (first | (go_at_call 35; refine (HPV.out _ (by assumption)).mono ?_; rintro e w2 ⟨rfl, hb2⟩) | (go_at_call 37; refine (HLV2.out _ (by assumption)).mono ?_; rintro e w3 ⟨u, rfl, ho, hb3⟩) | (go_at_call 36; refine (HTV.out _ _ _ (by assumption)).mono ?_; rintro e w4 ⟨rfl, hb4⟩))
              rename_i hS
              have HB := hidd hS.1
              clear hS hk0
              go_wp2
              go_roundw
              case rel => exact ⟨k + 1, by omega, by go_num, HE2.out, HB.out⟩
              case measure => simp [intOf]; omega
        · have HE : Hid (planB pl = true) := by
            have h := HA.out
            rw [List.take_of_length_le (by omega)] at h
            exact planB_iff.2 ⟨HCT.out.2.2, h, HCT.out.2.1⟩
          clear ha
          go_wp2
          go_ret
          exact ⟨ret_bool HE.out.symm, hB⟩
end Go.Proofs.YtdfnclnjnmdboaaDoor
