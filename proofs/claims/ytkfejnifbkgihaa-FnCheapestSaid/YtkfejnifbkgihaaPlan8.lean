/- Contracts: longest runs, segments, the plan by longest runs, in the program. -/
import Derived.Test.YtkfejnifbkgihaaPlan6
namespace Go.Proofs.Ytkfejnifbkgihaa
set_option linter.unusedVariables false
open Go.RowKit

theorem take_drop_lh (xs : List Int) (f c : Nat) : (xs.take (f + c)).drop f = (xs.drop f).take c := by
  rw [List.drop_take]; congr 1; omega
set_option maxHeartbeats 400000 in
theorem c_LongestRun (v : Value) (xs : List Int) (f : Nat) (d : Int) (w : World) (ha : RdI w v xs) (hcap : CapOk v) (hs : smallB xs = true) (hd : inB d 0 6 = true) (hf : f ≤ xs.length) :
    Calls Try.prog 31 #[v, (.int .i64 ((f : Int))), (.int .i64 (d))] w fun e w' => e = .returned (.int .i64 (lg (xs.drop f) d)) ∧ Below w.heap.size w w' := by
  obtain ⟨hsp, h1⟩ := smallB_iff.1 hs
  have hl60 := hsp.2
  have hsm := c_smallTable v xs w ha (by omega)
  rw [hs] at hsm
  obtain ⟨a, cap, rfl⟩ := RdI_form ha
  have hcc : xs.length ≤ cap := hcap _ _ _ rfl
  have hd6 := inB_iff.1 hd
  have HLG : Hid (lg (xs.drop f) d ≤ xs.length - f ∧ (∀ c, 1 ≤ c → c ≤ lg (xs.drop f) d → runB ((xs.drop f).take c) d = true) ∧ ∀ c, 1 ≤ c → c ≤ xs.length - f → runB ((xs.drop f).take c) d = true → c ≤ lg (xs.drop f) d) := by
    refine ⟨?_, fun c h1 h2 => lg_run h1 h2, fun c h1 h2 h3 => lg_max (hsp.drop f) hd6.2 h1 (by simp; omega) h3⟩
    have := lg_le (xs.drop f) d
    simpa using this
  have hfn : decide ((f : Int) < 0) = false := decide_eq_false (by omega)
  have hfl : decide (xs.length < f) = false := decide_eq_false (by omega)
  clear hs hsp hcap hd6
  go_enter Try.func31, Try.ntmps31
  go_wp2_with fail
  refine hsm.mono ?_
  rintro e w1 ⟨rfl, hB1⟩
  have ha1 := ha.kept hB1
  clear hsm ha
  go_wp2_with (go_at_call 54; refine (c_degreeValid _ _).mono ?_; rw [hd]; rintro e w' ⟨rfl, rfl⟩)
  clear hd
  go_loopw [7] (fun i wr => ∃ c : Nat, c ≤ xs.length - f ∧ i = .int .i64 c ∧ Hid (lg (xs.drop f) d ≤ c) ∧ Below w1.heap.size w1 wr) (fun i _ => (intOf i).toNat)
  case atStart => exact ⟨xs.length - f, Nat.le_refl _, by go_num, HLG.out.1, Below.refl _ _⟩
  case round =>
    obtain ⟨c, hc, rfl, HL, hB⟩ := hrel
    by_cases hc0 : 0 < c
    · obtain ⟨A, g1, g2⟩ := sl_lh a xs.length cap f (f + c) (by omega) (by omega) hcc
      have hr := g2 wr xs rfl (ha1.kept hB)
      rw [take_drop_lh] at hr
      have e1 : f + c - f = c := by omega
      have e2 : ((f + c : Nat) : Int) = (f : Int) + (c : Int) := by push_cast; rfl
      rw [e1] at hr g1
      rw [e2] at g1
      have HC := hidd (c_runOf _ ((xs.drop f).take c) d wr hr (CapOk_of (by omega)) (by simp; omega))
      clear g2 hr e1 e2
      cases hrb : runB ((xs.drop f).take c) d
      · have HN : Hid (lg (xs.drop f) d ≤ c - 1) := by
          show _ ≤ _
          have h1 := HL.out
          rcases Nat.lt_or_ge (lg (xs.drop f) d) c with h | h
          · omega
          · have := HLG.out.2.1 c (by omega) h
            rw [hrb] at this; cases this
        rw [hrb] at HC
        clear hrb HL
        go_wp2_with fail
        refine HC.out.mono ?_
        rintro e w2 ⟨u, rfl, ho, hB2⟩
        have HB := hidd (bthen hB hB2)
        clear ho hB2 hB g1
        go_wp2
        go_roundw
        case rel => exact ⟨c - 1, by omega, by go_num, HN.out, HB.out⟩
        case measure => simp [intOf]; omega
      · have HN : Hid (lg (xs.drop f) d = c) := by
          have h1 := HL.out
          have h2 := HLG.out.2.2 c (by omega) hc hrb
          show _ = _
          omega
        rw [hrb] at HC
        clear hrb HL
        go_wp2_with fail
        refine HC.out.mono ?_
        rintro e w2 ⟨u, rfl, ho, hB2⟩
        have HB := hidd (bthen hB1 (bthen hB hB2))
        clear ho hB2 hB g1
        go_wp2
        go_ret
        exact ⟨ret_int (by rw [HN.out]), HB.out⟩
    · have HN : Hid (lg (xs.drop f) d = 0) := by
        have := HL.out
        show _ = _
        omega
      clear HL
      go_wp2
      go_ret
      exact ⟨ret_int (by rw [HN.out]; rfl), bthen hB1 hB⟩

def SegRB (w : World) (c : Int) (p : List Int) (e : Ending) (w' : World) : Prop := ∃ qa qn qc, e = .returned (.tuple #[.agg #[.int .i64 c, .slice qa qn qc], .bool true]) ∧ OwnI w' w.heap.size (.slice qa qn qc) p ∧ Below w.heap.size w w'
theorem c_SegmentOf (v : Value) (xs : List Int) (f c : Nat) (d : Int) (w : World) (ha : RdI w v xs) (hcap : CapOk v) (hs : smallB xs = true) (hd : inB d 0 6 = true) (hf : f < xs.length) (hc1 : 1 ≤ c) (hc2 : f + c ≤ xs.length) (hr : runB ((xs.drop f).take c) d = true) :
    Calls Try.prog 30 #[v, (.int .i64 ((f : Int))), (.int .i64 ((c : Int))), (.int .i64 (d))] w (SegRB w (c : Int) (ip ((xs.drop f).take c))) := by
  obtain ⟨hsp, h1⟩ := smallB_iff.1 hs
  have hl60 := hsp.2
  have hB0 : Below w.heap.size w (w.alloc (.cells #[.int .i64 0, .slice none 0 0] 31)) := (Below.refl _ _).alloc (Nat.le_refl _) _
  have hsm := c_smallTable v xs _ (ha.kept hB0) (by omega)
  rw [hs] at hsm
  obtain ⟨a, cap, rfl⟩ := RdI_form ha
  have hcc : xs.length ≤ cap := hcap _ _ _ rfl
  obtain ⟨A, g1, g2⟩ := sl_lh a xs.length cap f (f + c) (by omega) (by omega) hcc
  have e1 : f + c - f = c := by omega
  have e2 : ((f + c : Nat) : Int) = (f : Int) + (c : Int) := by push_cast; rfl
  rw [e1] at g2 g1
  rw [e2] at g1
  have HC : Hid (∀ W, RdI W (.slice a xs.length cap) xs → Calls Try.prog 55 #[.slice A c (cap - f), (.int .i64 (d))] W (FreshIB W (ip ((xs.drop f).take c)) true)) := by
    show ∀ W, _
    intro W h
    have hr2 := g2 W xs rfl h
    rw [take_drop_lh] at hr2
    have := c_runOf _ ((xs.drop f).take c) d W hr2 (CapOk_of (by omega)) (by simp; omega)
    rwa [hr, runL_t hr] at this
  have hnl : ¬ (xs.length : Int) - (f : Int) < (c : Int) := by omega
  clear hs hsp hcap g2 hr e1 e2
  go_enter Try.func30, Try.ntmps30
  go_wp2_with fail
  refine hsm.mono ?_
  rintro e w1 ⟨rfl, hB1⟩
  have ha1 := (ha.kept hB0).kept hB1
  have hcell0 : w1.cell? ⟨w.heap.size, 0, none⟩ = some (.int .i64 0) := by rw [hB1.cell (p := ⟨w.heap.size, 0, none⟩) (by simp)]; simp [go_sem]
  have hcell1 : w1.cell? ⟨w.heap.size, 1, none⟩ = some (.slice none 0 0) := by rw [hB1.cell (p := ⟨w.heap.size, 1, none⟩) (by simp)]; simp [go_sem]
  have hf0 : w1.frozen? ⟨w.heap.size, 0, none⟩ = false := by rw [hB1.frozen (p := ⟨w.heap.size, 0, none⟩) (by simp)]; simp [go_sem]
  have hf1 : w1.frozen? ⟨w.heap.size, 1, none⟩ = false := by rw [hB1.frozen (p := ⟨w.heap.size, 1, none⟩) (by simp)]; simp [go_sem]
  have hsz1 : w.heap.size + 1 ≤ w1.heap.size := by have := hB1.size; simpa using this
  have HB1 := hidd (bthen hB0 hB1)
  clear hsm ha hB1 hB0
  go_wp2_with (go_at_call 54; refine (c_degreeValid _ _).mono ?_; rw [hd]; rintro e w' ⟨rfl, rfl⟩)
  refine (HC.out _ ha1).mono ?_
  rintro e w2 ⟨u, rfl, ho, hB2⟩
  obtain ⟨qa, qc, rfl⟩ := RdI_form (owns_RdI ho)
  have k0 : w2.cell? ⟨w.heap.size, 0, none⟩ = some (.int .i64 0) := by rw [(bcell hB2).1 _ _ (by omega)]; exact hcell0
  have k1 : w2.cell? ⟨w.heap.size, 1, none⟩ = some (.slice none 0 0) := by rw [(bcell hB2).1 _ _ (by omega)]; exact hcell1
  have f0 : w2.frozen? ⟨w.heap.size, 0, none⟩ = false := by rw [(bcell hB2).2 _ _ (by omega)]; exact hf0
  have f1 : w2.frozen? ⟨w.heap.size, 1, none⟩ = false := by rw [(bcell hB2).2 _ _ (by omega)]; exact hf1
  have HB2 := hidd (bthen HB1.out hB2)
  have HO := hidd ho
  clear hcell0 hcell1 hf0 hf1 hB2 ho ha1 g1 hd
  go_wp2
  refine bodyPost_ret (v := .tuple #[.agg #[.int .i64 c, .slice qa (ip ((xs.drop f).take c)).length qc], .bool true]) (by simp [results, Try.results30, go_sem, k0, k1]) rfl ⟨_, _, _, rfl, ?_, ?_⟩
  · exact ownsRow_mono (own_set (own_set HO.out (by omega)) (by omega)) (by omega)
  · exact (HB2.out.setCell (p := ⟨w.heap.size, 0, none⟩) (Nat.le_refl _) _).setCell (p := ⟨w.heap.size, 1, none⟩) (Nat.le_refl _) _

set_option maxRecDepth 20000 in
set_option maxHeartbeats 800000 in
theorem c_impl_GreedyPlan (v : Value) (xs : List Int) (d : Int) (w : World) (ha : RdI w v xs) (hcap : CapOk v) (hx : xs.length ≤ 1099511627776) :
    Calls Try.prog 27 #[v, (.int .i64 (d))] w (FreshPB w (grL xs d) (grB xs d)) := by
  have hsm := c_smallTable v xs w ha hx
  cases hv : grB xs d
  · have E : Hid (grL xs d = []) := if_neg (by rw [hv]; decide)
    have hd : smallB xs = false ∨ (smallB xs = true ∧ inB d 0 6 = false) := by
      unfold grB at hv
      cases h1 : smallB xs
      · exact .inl rfl
      · exact .inr ⟨rfl, by simpa [h1] using hv⟩
    clear hv ha hcap hx
    rcases hd with h | ⟨h, h2⟩
    all_goals
      rw [h] at hsm
      clear h
      go_enter Try.func27, Try.ntmps27
      go_wp2_with fail
      refine hsm.mono ?_
      rintro e w1 ⟨rfl, hB1⟩
      have HF : Hid (FreshPB w (grL xs d) false (.returned (.tuple #[.slice none 0 0, .bool false])) w1) :=
        ⟨_, rfl, by rw [E.out]; exact OwP.nil _ _, hB1⟩
      clear hsm hB1
      go_wp2_with (go_at_call 54; refine (c_degreeValid _ _).mono ?_; rw [h2]; rintro e w' ⟨rfl, rfl⟩)
      go_ret2
      exact HF.out
  · have E : Hid (grL xs d = gr xs d) := if_pos hv
    have hv' := hv
    unfold grB at hv'
    rw [Bool.and_eq_true] at hv'
    obtain ⟨hv1, hv2⟩ := hv'
    rw [hv1] at hsm
    obtain ⟨hsp, h1⟩ := smallB_iff.1 hv1
    have hl60 := hsp.2
    have hd6 := inB_iff.1 hv2
    have HSP := hidd hsp
    have HV1 := hidd hv1
    have HV2 := hidd hv2
    have HD : Hid (0 ≤ d ∧ d ≤ 6) := hd6
    have ho0 := OwP.nil w w.heap.size
    obtain ⟨a, cap, rfl⟩ := RdI_form ha
    have hcc : xs.length ≤ cap := hcap _ _ _ rfl
    clear hv hv1 hd6 hsp hcap hx
    go_enter Try.func27, Try.ntmps27
    go_wp2_with fail
    refine hsm.mono ?_
    rintro e w1 ⟨rfl, hB1⟩
    have ho1 := ho0.kept hB1
    have HB1 := hidd hB1
    clear hsm ho0
    go_wp2_with (go_at_call 54; refine (c_degreeValid _ _).mono ?_; rw [hv2]; rintro e w' ⟨rfl, rfl⟩)
    clear hv2
    go_loopw [6, 7, 8, 9] (fun r i _ _ wr => ∃ (F : Nat) (pl : List Seg), F ≤ xs.length ∧ i = .int .i64 F ∧ Hid (gr xs d = pl ++ gr (xs.drop F) d) ∧ OwP wr w.heap.size r pl ∧ pl.length ≤ F ∧ Below w.heap.size w wr) (fun _ i _ _ _ => xs.length - (intOf i).toNat)
    case atStart => exact ⟨0, [], by omega, rfl, rfl, ho1, by simp, hB1⟩
    case round =>
      obtain ⟨F, pl, hF, rfl, HG, ho, hpl, hB⟩ := hrel
      clear ho1 hB1
      by_cases hlt : F < xs.length
      · have hle := lg_le (xs.drop F) d
        have hpos := lg_pos (HSP.out.drop F) (d := d) (by simp; omega) HD.out.1 HD.out.2
        have hrun := lg_run (l := xs.drop F) (d := d) hpos (Nat.le_refl _)
        have HLR := hidd (c_LongestRun _ xs F d wr (ha.kept hB) (CapOk_of hcc) HV1.out HV2.out hF)
        have HGC := hidd (gr_cons (l := xs.drop F) (d := d) (by intro e; have := congrArg List.length e; simp at this; omega) hpos)
        obtain ⟨m, hm⟩ : ∃ m, lg (xs.drop F) d = m := ⟨_, rfl⟩
        rw [hm] at hle hpos hrun HLR HGC
        rw [List.length_drop] at hle
        have HSO : Hid (∀ W, RdI W (.slice a xs.length cap) xs → Calls Try.prog 30 #[.slice a xs.length cap, (.int .i64 ((F : Int))), (.int .i64 ((m : Int))), (.int .i64 (d))] W (SegRB W (m : Int) (ip ((xs.drop F).take m)))) := fun W h => c_SegmentOf _ xs F m d W h (CapOk_of hcc) HV1.out HV2.out hlt hpos (by omega) hrun
        have HRL : Hid (runL ((xs.drop F).take m) d = ip ((xs.drop F).take m)) := runL_t hrun
        obtain ⟨rs, q1, q2, q3⟩ := ho
        have hrl : rs.length ≤ 60 := by have := q2.1; omega
        have HQ2 := hidd q2
        have HQ3 := hidd q3
        have HB := hidd hB
        have hws := hB.size
        obtain ⟨p, hp⟩ : ∃ p, ip ((xs.drop F).take m) = p := ⟨_, rfl⟩
        rw [hp] at HSO HRL
        clear q2 q3 hm hB hp hrun
        go_wp2_with fail
        refine HLR.out.mono ?_
        rintro e w2 ⟨rfl, hB2⟩
        have q1b := ownsRow_kept_below q1 hB2
        have HB2 := hidd hB2
        have hs2 : wr.heap.size ≤ w2.heap.size := hB2.size
        have HQ22 := hidd (HQ2.out.kept hB2)
        have HR2 := hidd (ha.kept (bthen HB.out hB2))
        clear q1 hB2 HLR
        go_wp2_with fail
        refine (HSO.out _ HR2.out).mono ?_
        rintro e w3 ⟨ua, un, uc, rfl, hu, hB3⟩
        have q1c := ownsRow_kept_below q1b hB3
        have HQ23 := hidd (HQ22.out.kept hB3)
        have HU := hidd hu
        have HBt := hidd (bthen (bthen HB.out HB2.out) hB3)
        have hs3 : w.heap.size ≤ w3.heap.size := HBt.out.size
        have hal1 : Below w3.heap.size w3 (w3.alloc (.cells #[(.int .i64 ((m : Int))), .slice ua un uc] 31)) := (Below.refl _ _).alloc (Nat.le_refl _) _
        have q1d := ownsRow_kept_below q1c hal1
        have hs4 : w.heap.size ≤ (w3.alloc (.cells #[(.int .i64 ((m : Int))), .slice ua un uc] 31)).heap.size := Nat.le_trans hs3 hal1.size
        have HAL := hidd hal1
        have hRN : RdN ((w3.alloc (.cells #[(.int .i64 ((m : Int))), .slice ua un uc] 31)).alloc (.cells #[(.int .i64 ((m : Int))), .slice ua un uc] 31)) 2 (.slice (some ⟨w3.heap.size + 1, 0, none⟩) 1 1) 1 [(.int .i64 ((m : Int))), .slice ua un uc] := by simpa using RdN_seg (w3.alloc (.cells #[(.int .i64 ((m : Int))), .slice ua un uc] 31)) (m : Int) (.slice ua un uc)
        have HLT : Hid (∀ j, u6.ownBlock = some j → j < w3.heap.size) := fun j hj => (q1c.lt j hj).2
        clear q1b q1c hB3 hu hal1
        go_wp2_with (at_builtin; refine appN 23 31 Try.underlying23 infoSeg rfl (by decide) (by decide) rfl _ _ rfl w.heap.size _ _ _ rfl (q1d.alloc _) _ _ _ rfl hRN (one_seg (m : Int) ua un uc) ?c1 ?c2 ?_)
        case c1 => omega
        case c2 => simp; omega
        intro v' w4 ho4 hg4 _
        have hal : Below w3.heap.size w3 ((w3.alloc (.cells #[(.int .i64 ((m : Int))), .slice ua un uc] 31)).alloc (.cells #[(.int .i64 ((m : Int))), .slice ua un uc] 31)) := HAL.out.alloc (by simp) _
        have HO : Hid (OwP w4 w.heap.size v' (pl ++ [((m : Int), p)]) ∧ Below w.heap.size w w4) := by
          refine ⟨OwP_snoc (wr := w2) (q1d.alloc _) (HQ23.out.kept hal) HQ3.out (fun k hk j hj => Nat.lt_of_lt_of_le (HQ2.out.lt k hk j hj) hs2) (ownsRow_kept_below HU.out hal) (Nat.le_trans hws hs2) ho4 hg4, ?_⟩
          exact (bthen HBt.out hal).grown hg4 (by simp; omega) (fun j hj => (q1d.lt j hj).1)
        have hG' : gr xs d = (pl ++ [((m : Int), p)]) ++ gr (xs.drop (F + m)) d := by
          rw [HG.out, HGC.out, List.append_assoc, HRL.out, List.drop_drop]; rfl
        have HG' := hidd hG'
        have k0 : w4.cell? ⟨w3.heap.size, 0, none⟩ = some (.int .i64 ((m : Int))) := by
          have hb := hg4.block w3.heap.size (by simp; omega) (fun e => by have := HLT.out _ e.symm; omega)
          rw [World.cell?_of_block (w := (w3.alloc (.cells #[(.int .i64 ((m : Int))), .slice ua un uc] 31)).alloc (.cells #[(.int .i64 ((m : Int))), .slice ua un uc] 31)) (a := ⟨w3.heap.size, 0, none⟩) hb]
          simp [go_sem]
        have HL' : Hid ((pl ++ [((m : Int), p)]).length ≤ F + m) := by show _ ≤ _; simp; omega
        have hFm : F + m ≤ xs.length := by omega
        clear ho4 hg4 q1d hal hRN hG'
        go_wp2
        go_roundw
        case rel => exact ⟨F + m, _, by omega, by go_num, HG'.out, HO.out.1, HL'.out, HO.out.2⟩
        case measure => simp [intOf]; omega
      · have HF : Hid (FreshPB w (grL xs d) true (.returned (.tuple #[u6, .bool true])) wr) := by
          have hy0 : xs.drop F = [] := List.drop_eq_nil_of_le (by omega)
          have := HG.out
          rw [hy0, gr_nil, List.append_nil] at this
          exact ⟨_, rfl, by rw [E.out, this]; exact ho, hB⟩
        clear ho hB ha
        go_wp2
        go_ret2
        exact HF.out
end Go.Proofs.Ytkfejnifbkgihaa
