/- Contracts: the cheapest plan, in the reference. -/
import Derived.Test.YtkfejnifbkgihaaCp2
namespace Go.Proofs.Ytkfejnifbkgihaa
set_option linter.unusedVariables false
open Go.RowKit

theorem drop_ne {xs : List Int} {F : Nat} (h : F < xs.length) : xs.drop F ≠ [] := by
  intro e; have := congrArg List.length e; simp at this; omega
theorem cpB_f {l : List Int} {d a b : Int} (h : cpB l d a b = false) : smallB l = false ∨ (smallB l = true ∧ inB d 0 6 = false) ∨ (smallB l = true ∧ inB d 0 6 = true ∧ (inB a 0 1000 && inB b 0 1000) = false) := by
  unfold cpB at h
  cases h1 : smallB l
  · exact .inl rfl
  · cases h2 : inB d 0 6
    · exact .inr (.inl ⟨rfl, rfl⟩)
    · exact .inr (.inr ⟨rfl, rfl, by simpa [h1, h2] using h⟩)
theorem cpB_t {l : List Int} {d a b : Int} (h : cpB l d a b = true) : smallB l = true ∧ inB d 0 6 = true ∧ inB a 0 1000 = true ∧ inB b 0 1000 = true := by
  unfold cpB at h
  simp only [Bool.and_eq_true] at h
  exact ⟨h.1.1, h.1.2, h.2.1, h.2.2⟩
set_option maxRecDepth 20000 in
set_option maxHeartbeats 1600000 in
theorem c_l5RawCheapestPlan (v : Value) (xs : List Int) (d a b : Int) (w : World) (ha : RdI w v xs) (hcap : CapOk v) (hx : xs.length ≤ 1099511627776) :
    Calls Try.prog 72 #[v, (.int .i64 (d)), (.int .i64 (a)), (.int .i64 (b))] w (FreshPB w (cpL xs d a b) (cpB xs d a b)) := by
  have hB0 : Below w.heap.size w (w.alloc (.cells #[] 31)) := (Below.refl _ _).alloc (Nat.le_refl _) _
  have ho0 := OwP.made w w.heap.size (Nat.le_refl _)
  have hsm := c_l5Small v xs (w.alloc (.cells #[] 31)) (ha.kept hB0) hx
  cases hv : cpB xs d a b
  · have E : Hid (cpL xs d a b = []) := if_neg (by rw [hv]; decide)
    have hd := cpB_f hv
    clear hv ha hcap hx
    rcases hd with h | ⟨h, h2⟩ | ⟨h, h2, h3⟩
    · rw [h] at hsm
      clear h
      go_enter Try.func72, Try.ntmps72
      go_wp2_with fail
      refine hsm.mono ?_
      rintro e w1 ⟨rfl, hB1⟩
      have HF : Hid (FreshPB w (cpL xs d a b) false (.returned (.tuple #[.slice (some ⟨w.heap.size, 0, none⟩) 0 0, .bool false])) w1) :=
        ⟨_, rfl, by rw [E.out]; exact ho0.kept hB1, bthen hB0 hB1⟩
      clear ho0 hB0 hsm hB1
      go_wp2
      go_ret2
      exact HF.out
    · rw [h] at hsm
      clear h
      go_enter Try.func72, Try.ntmps72
      go_wp2_with fail
      refine hsm.mono ?_
      rintro e w1 ⟨rfl, hB1⟩
      have HF : Hid (FreshPB w (cpL xs d a b) false (.returned (.tuple #[.slice (some ⟨w.heap.size, 0, none⟩) 0 0, .bool false])) w1) :=
        ⟨_, rfl, by rw [E.out]; exact ho0.kept hB1, bthen hB0 hB1⟩
      clear ho0 hB0 hsm hB1
      go_wp2_with (go_at_call 82; refine (c_l4Degree _ _).mono ?_; rw [h2]; rintro e w' ⟨rfl, rfl⟩)
      go_ret2
      exact HF.out
    · rw [h] at hsm
      clear h
      go_enter Try.func72, Try.ntmps72
      go_wp2_with fail
      refine hsm.mono ?_
      rintro e w1 ⟨rfl, hB1⟩
      have HF : Hid (FreshPB w (cpL xs d a b) false (.returned (.tuple #[.slice (some ⟨w.heap.size, 0, none⟩) 0 0, .bool false])) w1) :=
        ⟨_, rfl, by rw [E.out]; exact ho0.kept hB1, bthen hB0 hB1⟩
      clear ho0 hB0 hsm hB1
      go_wp2_with (first | (go_at_call 82; refine (c_l4Degree _ _).mono ?_; rw [h2]; rintro e w' ⟨rfl, rfl⟩) | (go_at_call 96; refine (c_l5Cost _ _ _).mono ?_; rw [h3]; rintro e w' ⟨rfl, rfl⟩))
      go_ret2
      exact HF.out
  · have E : Hid (cpL xs d a b = cp d a b xs) := if_pos hv
    obtain ⟨hv1, hv2, hv3, hv4⟩ := cpB_t hv
    have hv5 : (inB a 0 1000 && inB b 0 1000) = true := by rw [hv3, hv4]; rfl
    rw [hv1] at hsm
    obtain ⟨hsp, h1⟩ := smallB_iff.1 hv1
    have HD : Hid (0 ≤ d ∧ d ≤ 6) := inB_iff.1 hv2
    have HAB : Hid ((0 ≤ a ∧ a ≤ 1000) ∧ (0 ≤ b ∧ b ≤ 1000)) := ⟨inB_iff.1 hv3, inB_iff.1 hv4⟩
    have hl60 := hsp.2
    have HX := hidd ha
    have HSP := hidd hsp
    obtain ⟨A0, cap, rfl⟩ := RdI_form ha
    have hcc : xs.length ≤ cap := hcap _ _ _ rfl
    clear hv hv1 hv3 hv4 ha h1 hsp hcap hx
    go_enter Try.func72, Try.ntmps72
    go_wp2_with fail
    refine hsm.mono ?_
    rintro e w1 ⟨rfl, hB1⟩
    have ho1 := ho0.kept hB1
    have hB1' := bthen hB0 hB1
    clear ho0 hB0 hB1 hsm
    go_wp2_with (first | (go_at_call 82; refine (c_l4Degree _ _).mono ?_; rw [hv2]; rintro e w' ⟨rfl, rfl⟩) | (go_at_call 96; refine (c_l5Cost _ _ _).mono ?_; rw [hv5]; rintro e w' ⟨rfl, rfl⟩))
    clear hv2 hv5
    refine (c_l5Best _ xs d a b w1 (HX.out.kept hB1') (CapOk_of hcc) HSP.out HD.out.1 HD.out.2 HAB.out.1 HAB.out.2).mono ?_
    rintro e w2 ⟨vb, rfl, hvb, hB2⟩
    have ho2 := ho1.kept hB2
    have hvb' := ownsRow_mono hvb hB1'.size
    have hB2' := bthen hB1' hB2
    have hba : 0 ≤ a ∧ a ≤ 1000 := HAB.out.1
    have hbb : 0 ≤ b ∧ b ≤ 1000 := HAB.out.2
    have hfm := RdI_form (owns_RdI hvb')
    obtain ⟨ba, bc, rfl⟩ := hfm
    have hbl : (bsT d a b xs 0).length = xs.length + 1 := bsT_len d a b xs 0
    have hbc := owns_CapOk hvb' _ _ _ rfl
    rw [hbl] at hvb' hbc
    have H0 : Hid (OwP w2 w.heap.size (.slice (some ⟨w.heap.size, 0, none⟩) 0 0) [] ∧ w2.ownsRow w.heap.size 3 1 (.slice ba (xs.length + 1) bc) (xs.length + 1) ((bsT d a b xs 0).map (Value.int .i64)) ∧ Below w.heap.size w w2) := ⟨ho2, hvb', hB2'⟩
    rw [hbl]
    obtain ⟨bb, rfl⟩ : ∃ bb, ba = some ⟨bb, 0, none⟩ := by
      rcases hvb'.2 with ⟨e, h⟩ | ⟨g, cap', cur, e, _⟩
      · omega
      · simp only [Value.slice.injEq] at e
        exact ⟨g, e.1⟩
    have K1 : Hid (∀ W : World, W.ownsRow w.heap.size 3 1 (.slice (some ⟨bb, 0, none⟩) (xs.length + 1) bc) (xs.length + 1) ((bsT d a b xs 0).map (Value.int .i64)) → ∀ j, j ≤ xs.length → W.cell? ⟨bb, j, none⟩ = some (.int .i64 (bs d a b (xs.drop j)))) := by
      show ∀ W : World, _
      intro W h j hj
      rw [h.cellAt j (by omega), ← bsT_at (d := d) (a := a) (b := b) (F := 0) (Nat.zero_le j) hj]
      simp [List.getD, bsT_len, show j < xs.length + 1 by omega]
    clear ho1 ho2 hvb hvb' hB1' hB2 hB2' hbl
    go_wp2
    go_loopw [10, 12, 13, 14, 15] (fun r i _ _ _ wr => ∃ (F : Nat) (pl : List Seg), i = .int .i64 F ∧ F ≤ xs.length ∧ pl.length ≤ F ∧ Hid (cp d a b xs = pl ++ cp d a b (xs.drop F)) ∧ Hid (OwP wr w.heap.size r pl ∧ wr.ownsRow w.heap.size 3 1 (.slice (some ⟨bb, 0, none⟩) (xs.length + 1) bc) (xs.length + 1) ((bsT d a b xs 0).map (Value.int .i64)) ∧ Below w.heap.size w wr)) (fun _ i _ _ _ _ => xs.length - (intOf i).toNat)
    case atStart => exact ⟨0, [], rfl, by omega, by simp, rfl, H0⟩
    case round =>
      obtain ⟨F, pl, rfl, hF, hpl, HG, HH⟩ := hrel
      clear H0
      by_cases hlt : F < xs.length
      · obtain ⟨A, g1, g2⟩ := sl_from A0 xs.length cap F hF hcc
        have HLG := hidd (c_l5Longest _ (xs.drop F) d wr ((g2 w xs rfl HX.out).kept HH.out.2.2) (CapOk_of (by omega)) (by simp; omega))
        have hsF := HSP.out.drop F
        have hch := ch_facts (d := d) (a := a) (b := b) HD.out.1 HD.out.2 hba hbb hsF (by simp; omega)
        have hlg := lg_le (xs.drop F) d
        rw [List.length_drop] at hlg
        have HRUN : Hid (∀ c, 1 ≤ c → c ≤ lg (xs.drop F) d → runB ((xs.drop F).take c) d = true) := fun c h1 h2 => lg_run h1 h2
        have HAF : Hid (∀ c, ch d a b (xs.drop F) < c → c ≤ lg (xs.drop F) d → gC d a b (xs.drop F) c ≠ bs d a b (xs.drop F)) := fun c h1 h2 => lst_after _ _ _ c h1 h2
        have HBD : Hid (∀ c, 0 ≤ bs d a b ((xs.drop F).drop c) ∧ bs d a b ((xs.drop F).drop c) ≤ 480000) := by
          show ∀ c : Nat, _
          intro c
          have h := bs_bd (d := d) (a := a) (b := b) HD.out.1 HD.out.2 hba hbb _ ((xs.drop F).drop c) (Nat.le_refl _) (hsF.drop c)
          have h2 := (hsF.drop c).2
          omega
        have HCC := hidd (cp_cons (d := d) (a := a) (b := b) (drop_ne hlt) hch.1)
        have HGE := hidd hch.2.2
        obtain ⟨C, hC⟩ : ∃ C, ch d a b (xs.drop F) = C := ⟨_, rfl⟩
        obtain ⟨m, hm⟩ : ∃ m, lg (xs.drop F) d = m := ⟨_, rfl⟩
        rw [hC] at hch HAF HCC HGE
        rw [hm] at hch hlg HRUN HAF HLG
        obtain ⟨hc1, hc2, _⟩ := hch
        obtain ⟨R, rfl⟩ : ∃ R, R = u10 := ⟨_, rfl⟩
        clear g2 hC hm hsF
        go_wp2_with fail
        refine HLG.out.mono ?_
        rintro e w3 ⟨rfl, hB3⟩
        have H3 : Hid (OwP w3 w.heap.size R pl ∧ w3.ownsRow w.heap.size 3 1 (.slice (some ⟨bb, 0, none⟩) (xs.length + 1) bc) (xs.length + 1) ((bsT d a b xs 0).map (Value.int .i64)) ∧ Below w.heap.size w w3) := ⟨HH.out.1.kept hB3, ownsRow_kept_below HH.out.2.1 hB3, bthen HH.out.2.2 hB3⟩
        clear HH hB3 HLG g1
        go_wp2
        go_loopw [10, 12, 13, 14, 15] (fun r i n _ _ W => ∃ c : Nat, r = R ∧ i = .int .i64 F ∧ n = .int .i64 c ∧ C ≤ c ∧ c ≤ m ∧ Hid (OwP W w.heap.size R pl ∧ W.ownsRow w.heap.size 3 1 (.slice (some ⟨bb, 0, none⟩) (xs.length + 1) bc) (xs.length + 1) ((bsT d a b xs 0).map (Value.int .i64)) ∧ Below w.heap.size w W)) (fun _ _ n _ _ _ => (intOf n).toNat)
        case atStart => exact ⟨m, rfl, rfl, rfl, hc2, Nat.le_refl _, H3⟩
        case round =>
          obtain ⟨c, rfl, rfl, rfl, hCc, hcm, HH⟩ := hrel
          clear H3
          have hc0 : 0 < c := by omega
          have hFc : F + c ≤ xs.length := by omega
          have hFc' : (F : Int) + (c : Int) ≤ (xs.length : Int) := by omega
          obtain ⟨A, g1, g2⟩ := sl_lh A0 xs.length cap F (F + c) (by omega) hFc hcc
          have hr := g2 w xs rfl HX.out
          rw [take_drop_lh] at hr
          have q1 : F + c - F = c := by omega
          have q2 : ((F + c : Nat) : Int) = (F : Int) + (c : Int) := by push_cast; rfl
          rw [q1] at hr g1
          rw [q2] at g1
          have HC := hidd (c_l5Run _ ((xs.drop F).take c) d wr (hr.kept HH.out.2.2) (CapOk_of (by omega)) (by simp; omega))
          have hrl := runL_len ((xs.drop F).take c) d
          have HCOST : Hid (gC d a b (xs.drop F) c = a + b * ((runL ((xs.drop F).take c) d).length : Int) + bs d a b ((xs.drop F).drop c)) := rfl
          obtain ⟨X, hX⟩ : ∃ X, bs d a b (xs.drop F) = X := ⟨_, rfl⟩
          obtain ⟨Y, hY⟩ : ∃ Y, bs d a b ((xs.drop F).drop c) = Y := ⟨_, rfl⟩
          have hY0 := (HBD.out c).1
          have hY1 := (HBD.out c).2
          have hk : ∀ W : World, W.ownsRow w.heap.size 3 1 (.slice (some ⟨bb, 0, none⟩) (xs.length + 1) bc) (xs.length + 1) ((bsT d a b xs 0).map (Value.int .i64)) → W.cell? ⟨bb, F, none⟩ = some (.int .i64 X) ∧ W.cell? ⟨bb, F + c, none⟩ = some (.int .i64 Y) := by
            intro W h
            refine ⟨by rw [← hX]; exact K1.out W h F hF, ?_⟩
            rw [← hY, List.drop_drop]; exact K1.out W h (F + c) hFc
          have HK := hidd hk
          have HA2 := hidd (fun h => HAF.out c h hcm)
          rw [hX] at HA2
          have HG2 := HGE
          rw [hX] at HG2
          rw [hY] at hY0 hY1 HCOST
          have HRL : Hid (runL ((xs.drop F).take C) d = runL ((xs.drop F).take C) d) := rfl
          obtain ⟨P, hP⟩ : ∃ P, runL ((xs.drop F).take c) d = P := ⟨_, rfl⟩
          have HP := hidd hP
          rw [hP] at hrl HC HCOST
          rw [HRUN.out c hc0 hcm] at HC
          have hp0 : 0 ≤ b * (P.length : Int) := Int.mul_nonneg hbb.1 (by omega)
          have hp1 : b * (P.length : Int) ≤ 1000 * 7 := Int.mul_le_mul hbb.2 (by omega) (by omega) (by omega)
          have j0 : (0 : Int) ≤ (F : Int) := by omega
          have j1 : (F : Int) + (c : Int) < (xs.length : Int) + 1 := by omega
          have j2 : ((F : Int) + (c : Int)).toNat = F + c := by omega
          have j3 : (0 : Int) ≤ (F : Int) + (c : Int) := by omega
          have j4 : (F : Int) < (xs.length : Int) + 1 := by omega
          clear hX hY hP hk q1 q2 g2 hr
          go_wp2_with fail
          refine HC.out.mono ?_
          rintro e w4 ⟨u, rfl, hu, hB4⟩
          obtain ⟨pa, pc, rfl⟩ := RdI_form (owns_RdI hu)
          obtain ⟨e1, e2⟩ := HK.out w4 (ownsRow_kept_below HH.out.2.1 hB4)
          have HU := hidd hu
          have HB4 := hidd hB4
          clear hu hB4 g1 HC
          by_cases hT : a + b * (P.length : Int) + Y = X
          · have hTb : (a + b * (P.length : Int) + Y == X) = true := by simpa using hT
            have hce : C = c := by
              rcases Nat.lt_or_ge C c with h | h
              · exact absurd (by rw [HCOST.out]; exact hT) (HA2.out h)
              · omega
            subst hce
            clear hT
            go_wp2
            go_region
            obtain ⟨⟨rs, h1, h2, h3⟩, hbst, hBw⟩ := HH.out
            have hBd : Below wr.heap.size wr w4.drew := HB4.out.drew
            have q1 := ownsRow_kept_below h1 hBd
            have HQ2 := hidd (h2.kept hBd)
            have HLT := hidd h2.lt
            have HQ3 := hidd h3
            have HBS := hidd (ownsRow_kept_below hbst hBd)
            have HBt := hidd (bthen hBw hBd)
            have hws := hBw.size
            have hs4 : wr.heap.size ≤ w4.drew.heap.size := hBd.size
            have hrl2 : rs.length ≤ 60 := by have := h2.1; omega
            clear h1 h2 h3 hbst hBw hBd e1 e2 HH
            go_wp2_with (at_builtin; refine appN 23 31 Try.underlying23 infoSeg rfl (by decide) (by decide) rfl _ _ rfl w.heap.size _ _ _ rfl (q1.alloc _) _ _ _ rfl (RdN_seg w4.drew (C : Int) (.slice pa _ pc)) (one_seg (C : Int) pa _ pc) ?c1 ?c2 ?_)
            case c1 => omega
            case c2 => simp; simp at hs4; omega
            intro v' w5 ho5 hg5 _
            have hal : Below w4.drew.heap.size w4.drew (w4.drew.alloc (.cells #[(.int .i64 ((C : Int))), .slice pa P.length pc] 31)) := (Below.refl _ _).alloc (Nat.le_refl _) _
            have HO : Hid (OwP w5 w.heap.size v' (pl ++ [((C : Int), P)]) ∧ w5.ownsRow w.heap.size 3 1 (.slice (some ⟨bb, 0, none⟩) (xs.length + 1) bc) (xs.length + 1) ((bsT d a b xs 0).map (Value.int .i64)) ∧ Below w.heap.size w w5) := by
              refine ⟨OwP_snoc (wr := wr) (q1.alloc _) (HQ2.out.kept hal) HQ3.out HLT.out (ownsRow_kept_below (ownsRow_kept_below HU.out ((Below.refl _ _).drew)) hal) hws ho5 hg5, ?_, ?_⟩
              · exact World.ownsRow.kept (HBS.out.alloc _) hg5 (seg_apart HBS.out q1)
              · exact (bthen HBt.out hal).grown hg5 (by simp; simp at hs4; omega) (fun j hj => (q1.lt j hj).1)
            have HG' : Hid (cp d a b xs = (pl ++ [((C : Int), P)]) ++ cp d a b (xs.drop (F + C))) := by
              show _ = _
              rw [HG.out, HCC.out, HP.out, List.append_assoc, List.drop_drop]; rfl
            clear ho5 hg5 q1 hal
            go_wp2
            go_roundw
            case rel => exact ⟨F + C, _, by go_num, hFc, by simp; omega, HG', HO⟩
            case measure => simp [intOf]; omega
          · have hTb : (a + b * (P.length : Int) + Y == X) = false := by simpa using hT
            have hce : C ≠ c := by
              intro h
              subst h
              exact hT (by rw [← HCOST.out]; exact HG2.out)
            clear hT
            go_wp2
            go_region
            have HO : Hid (OwP w4.drew w.heap.size u10 pl ∧ w4.drew.ownsRow w.heap.size 3 1 (.slice (some ⟨bb, 0, none⟩) (xs.length + 1) bc) (xs.length + 1) ((bsT d a b xs 0).map (Value.int .i64)) ∧ Below w.heap.size w w4.drew) :=
              ⟨HH.out.1.kept HB4.out.drew, ownsRow_kept_below HH.out.2.1 HB4.out.drew, bthen HH.out.2.2 HB4.out.drew⟩
            clear e1 e2
            go_wp2
            go_roundw
            case rel => exact ⟨c - 1, rfl, rfl, by go_num, by omega, by omega, HO⟩
            case measure => simp [intOf]; omega
      · have HF : Hid (FreshPB w (cpL xs d a b) true (.returned (.tuple #[u10, .bool true])) wr) := by
          have hy0 : xs.drop F = [] := List.drop_eq_nil_of_le (by omega)
          have := HG.out
          rw [hy0, cp_nil, List.append_nil] at this
          exact ⟨_, rfl, by rw [E.out, this]; exact HH.out.1, HH.out.2.2⟩
        clear HH
        go_wp2
        go_ret2
        exact HF.out

theorem c_spec_CheapestPlan (v : Value) (xs : List Int) (d a b : Int) (w : World) (ha : RdI w v xs) (hcap : CapOk v) (hx : xs.length ≤ 1099511627776) :
    Calls Try.prog 38 #[v, (.int .i64 (d)), (.int .i64 (a)), (.int .i64 (b))] w (FreshPB w (cpL xs d a b) (cpB xs d a b)) := by
  have HR := hidd (c_l5RawCheapestPlan v xs d a b w ha hcap hx)
  have hl := cpL_len xs d a b
  have hm := cpL_mem xs d a b
  have HC : Hid (∀ u W, RdP W u (cpL xs d a b) → Calls Try.prog 52 #[u] W (FreshP W (cpL xs d a b))) := fun u W h => c_l9OwnListSegment u _ W h (by omega) (fun s hs => by have := hm s hs; omega)
  clear ha hcap hx hl hm
  go_enter Try.func38, Try.ntmps38
  go_wp2_with fail
  refine HR.out.mono ?_
  rintro e w1 ⟨u, rfl, ho, hB1⟩
  have HC1 := hidd (HC.out _ _ ho.rd)
  clear ho
  go_wp2_with fail
  refine HC1.out.mono ?_
  rintro e w2 ⟨u2, rfl, ho2, hB2⟩
  have HF : Hid (FreshPB w (cpL xs d a b) (cpB xs d a b) (.returned (.tuple #[u2, .bool (cpB xs d a b)])) w2) := ⟨_, rfl, ho2.mono hB1.size, bthen hB1 hB2⟩
  clear ho2 hB1 hB2
  go_wp2
  go_ret2
  exact HF.out
end Go.Proofs.Ytkfejnifbkgihaa
