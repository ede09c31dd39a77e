/- Lemmas and contracts for WholePlan (Plan6 Plan7 Plan8): plain words on memory, contracts of the functions that the law reaches. No condition but what each states. -/
import Derived.Test.YtdfnclnjnmdboaaGreatDoorMWholePlanPlan4
import Derived.Test.YtdfnclnjnmdboaaGreatDoorMWholePlanGrP
namespace Go.Proofs.YtdfnclnjnmdboaaGreatDoor
set_option linter.unusedVariables false
open Go.RowKit

theorem smallB_no {xs : List Int} {k : Nat} (hk : k < xs.length) (h : inB (xs.getD k 0) (-1500) 1500 = false) : smallB xs = false := by
  unfold smallB
  rw [show allIn xs 1500 = false from allIn_not hk h, Bool.and_false]
set_option maxRecDepth 20000 in
theorem c_l5Small (v : Value) (xs : List Int) (w : World) (ha : RdI w v xs) (hx : xs.length ≤ 1099511627776) :
    Calls Tryz.prog 83 #[v] w fun e w' => e = .returned (.bool (smallB xs)) ∧ Below w.heap.size w w' := by
  have ha0 := ha
  obtain ⟨a, cap, rfl, ha1⟩ := ha0
  clear ha1
  simp only [List.length_map] at ha ⊢
  go_enter Tryz.func83, Tryz.ntmps83
  go_wp2
  go_loopw [3] (fun i wr => ∃ k : Nat, k ≤ xs.length ∧ i = .int .i64 k ∧ allIn (xs.take k) 1500 = true ∧ Below w.heap.size w wr) (fun i _ => xs.length - (intOf i).toNat)
  case atStart => exact ⟨0, by omega, rfl, rfl, Below.refl _ _⟩
  case round =>
    obtain ⟨k, hk, rfl, hA, hB⟩ := hrel
    have HA := hidd hA
    clear hA
    by_cases hlt : k < xs.length
    · obtain ⟨b1, o1, rfl, hb1, e1⟩ := RdI_cell ha hB hlt
      have HNo : Hid (inB (xs.getD k 0) (-1500) 1500 = false → smallB xs = false) := fun h => smallB_no hlt h
      have HT := hidd (allIn_take xs 1500 k hlt)
      obtain ⟨x, hx1⟩ : ∃ x, xs.getD k 0 = x := ⟨_, rfl⟩
      rw [hx1] at e1 HNo HT
      clear hx1 ha
      cases hi : inB x (-1500) 1500
      · have HO : Hid (smallB xs = false) := HNo.out hi
        go_wp2_with (first | (go_at_call 60; refine (c_l1In _ _ _ _).mono ?_; rw [hi]; rintro e w' ⟨rfl, rfl⟩))
        go_ret
        exact ⟨ret_bool HO.out.symm, hB⟩
      · have HO : Hid (allIn (xs.take (k + 1)) 1500 = true) := by show _ = _; rw [HT.out, HA.out, hi]; rfl
        go_wp2_with (first | (go_at_call 60; refine (c_l1In _ _ _ _).mono ?_; rw [hi]; rintro e w' ⟨rfl, rfl⟩))
        go_roundw
        case rel => exact ⟨k + 1, by omega, by go_num, HO.out, hB⟩
        case measure => simp [intOf]; omega
    · have HO : Hid (smallB xs = tabB xs) := by
        have h := HA.out
        rw [List.take_of_length_le (by omega)] at h
        show _ = _
        unfold smallB; rw [h, Bool.and_true]
      have HC := hidd (c_spec_TableValid _ xs wr (ha.kept hB) hx)
      clear ha
      go_wp2_with fail
      refine HC.out.mono ?_
      rintro e w2 ⟨rfl, hB2⟩
      go_wp2
      go_ret
      exact ⟨ret_bool HO.out.symm, bthen hB hB2⟩
set_option maxRecDepth 20000 in
theorem c_smallTable (v : Value) (xs : List Int) (w : World) (ha : RdI w v xs) (hx : xs.length ≤ 1099511627776) :
    Calls Tryz.prog 40 #[v] w fun e w' => e = .returned (.bool (smallB xs)) ∧ Below w.heap.size w w' := by
  have ht := c_impl_TableValid v xs w ha hx
  have HC : Hid (∀ W, RdI W v xs → Calls Tryz.prog 82 #[v, (.int .i64 (1500))] W fun e w' => e = .returned (.bool (allIn xs 1500)) ∧ Below W.heap.size W w') := fun W h => c_allWithin v xs 1500 W h hx (by omega) (by omega)
  cases hv : tabB xs
  · have E : Hid (smallB xs = false) := by show _ = _; unfold smallB; rw [hv]; rfl
    rw [hv] at ht
    clear hv ha
    go_enter Tryz.func40, Tryz.ntmps40
    go_wp2_with fail
    refine ht.mono ?_
    rintro e w1 ⟨rfl, hB1⟩
    clear ht
    go_wp2
    go_ret
    exact ⟨ret_bool E.out.symm, hB1⟩
  · have E : Hid (smallB xs = allIn xs 1500) := by show _ = _; unfold smallB; rw [hv]; rfl
    rw [hv] at ht
    clear hv
    go_enter Tryz.func40, Tryz.ntmps40
    go_wp2_with fail
    refine ht.mono ?_
    rintro e w1 ⟨rfl, hB1⟩
    have ha1 := ha.kept hB1
    clear ht ha
    go_wp2_with fail
    refine (HC.out _ ha1).mono ?_
    rintro e w2 ⟨rfl, hB2⟩
    clear ha1
    go_wp2
    go_ret
    exact ⟨ret_bool E.out.symm, bthen hB1 hB2⟩

theorem lgF_t {l : List Int} {d : Int} {f n : Nat} (h : runB (l.take (n + 1)) d = true) : lgF l d (f + 1) n = lgF l d f (n + 1) := if_pos h
theorem lgF_f {l : List Int} {d : Int} {f n : Nat} (h : runB (l.take (n + 1)) d = false) : lgF l d (f + 1) n = n := if_neg (by rw [h]; decide)
set_option maxRecDepth 20000 in
theorem c_l5Longest (v : Value) (xs : List Int) (d : Int) (w : World) (ha : RdI w v xs) (hcap : CapOk v) (hx : xs.length ≤ 1099511627776) :
    Calls Tryz.prog 85 #[v, (.int .i64 (d))] w fun e w' => e = .returned (.int .i64 (lg xs d)) ∧ Below w.heap.size w w' := by
  have ha0 := ha
  obtain ⟨a, cap, rfl, ha1⟩ := ha0
  clear ha1
  simp only [List.length_map] at ha hcap ⊢
  have hcc : xs.length ≤ cap := hcap _ _ _ rfl
  clear hcap
  go_enter Tryz.func85, Tryz.ntmps85
  go_wp2
  go_loopw [5] (fun i wr => ∃ k : Nat, k ≤ xs.length ∧ i = .int .i64 k ∧ Hid (lg xs d = lgF xs d (xs.length - k) k) ∧ Below w.heap.size w wr) (fun i _ => xs.length - (intOf i).toNat)
  case atStart => exact ⟨0, by omega, rfl, rfl, Below.refl _ _⟩
  case round =>
    obtain ⟨k, hk, rfl, HL, hB⟩ := hrel
    by_cases hlt : k < xs.length
    · have HC := hidd (c_l5Run _ (xs.take (k + 1)) d wr (RdI_take (ha.kept hB) (k := k + 1) (by omega)) (CapOk_of (by omega)) (by simp; omega))
      have h8 : xs.length - k = (xs.length - (k + 1)) + 1 := by omega
      have hL := HL.out
      rw [h8] at hL
      have hkc : k + 1 ≤ cap := by omega
      clear h8 ha
      cases hr : runB (xs.take (k + 1)) d
      · have HE : Hid (lg xs d = k) := by show _ = _; rw [hL, lgF_f hr]
        rw [hr] at HC
        clear hL hr HL
        go_wp2_with fail
        refine HC.out.mono ?_
        rintro e w2 ⟨u, rfl, ho, hB2⟩
        have HB := hidd (bthen hB hB2)
        clear ho hB2 hB
        go_wp2
        go_ret
        exact ⟨ret_int (by rw [HE.out]), HB.out⟩
      · have HE : Hid (lg xs d = lgF xs d (xs.length - (k + 1)) (k + 1)) := by show _ = _; rw [hL, lgF_t hr]
        rw [hr] at HC
        clear hL hr HL
        go_wp2_with fail
        refine HC.out.mono ?_
        rintro e w2 ⟨u, rfl, ho, hB2⟩
        have HB := hidd (bthen hB hB2)
        clear ho hB2 hB
        go_wp2
        go_roundw
        case rel => exact ⟨k + 1, by omega, by go_num, HE.out, HB.out⟩
        case measure => simp [intOf]; omega
    · have HE : Hid (lg xs d = k) := by
        have : xs.length - k = 0 := by omega
        have h := HL.out
        rw [this] at h
        exact h
      clear ha HL
      go_wp2
      go_ret
      exact ⟨ret_int (by rw [HE.out]), hB⟩

/-- the plan by longest runs, if numbers and degree allow one -/
def grB (l : List Int) (d : Int) : Bool := smallB l && inB d 0 6
def grL (l : List Int) (d : Int) : List Seg := if grB l d = true then gr l d else []
theorem runL_len (l : List Int) (d : Int) : (runL l d).length ≤ 7 := by
  unfold runL
  split
  · rename_i h
    exact (polyB_iff (runB_iff h).2.2.2).2.1
  · simp
theorem gr_mem (d : Int) : ∀ f l, ∀ s ∈ grF d f l, s.2.length ≤ 7
  | 0, _, s, h => by simp [grF] at h
  | f + 1, l, s, h => by
    unfold grF at h
    split at h
    · cases h
    · rcases List.mem_cons.1 h with rfl | h
      · exact runL_len _ _
      · exact gr_mem d f _ s h
theorem gr_len (d : Int) : ∀ f l, (grF d f l).length ≤ l.length
  | 0, l => by simp [grF]
  | f + 1, l => by
    unfold grF
    split
    · simp
    · rename_i h
      have := gr_len d f (l.drop (max (lg l d) 1))
      have hl : 0 < l.length := List.length_pos_iff.2 h
      simp at this ⊢
      omega
theorem grL_len (l : List Int) (d : Int) : (grL l d).length ≤ 60 := by
  unfold grL
  split
  · rename_i h
    unfold grB at h
    rw [Bool.and_eq_true, smallB_iff] at h
    have := gr_len d l.length l
    have h2 := h.1.1.2
    unfold gr; omega
  · simp
theorem grL_mem (l : List Int) (d : Int) : ∀ s ∈ grL l d, s.2.length ≤ 7 := by
  unfold grL
  split
  · exact gr_mem d _ l
  · intro s h; cases h
theorem RdI_form {w : World} {v : Value} {xs : List Int} (h : RdI w v xs) : ∃ a c, v = .slice a xs.length c := by
  obtain ⟨a, c, e, _⟩ := h
  exact ⟨a, c, by rw [e, List.length_map]⟩

set_option maxRecDepth 20000 in
set_option maxHeartbeats 800000 in
theorem c_l5RawGreedyPlan (v : Value) (xs : List Int) (d : Int) (w : World) (ha : RdI w v xs) (hcap : CapOk v) (hx : xs.length ≤ 1099511627776) :
    Calls Tryz.prog 44 #[v, (.int .i64 (d))] w (FreshPB w (grL xs d) (grB xs d)) := by
  have hB0 : Below w.heap.size w (w.alloc (.cells #[] 44)) := (Below.refl _ _).alloc (Nat.le_refl _) _
  have ho0 := OwP.made w w.heap.size (Nat.le_refl _)
  have hsm := c_l5Small v xs (w.alloc (.cells #[] 44)) (ha.kept hB0) hx
  cases hv : grB xs d
  · have E : Hid (grL xs d = []) := if_neg (by rw [hv]; decide)
    have hd : smallB xs = false ∨ (smallB xs = true ∧ inB d 0 6 = false) := by
      unfold grB at hv
      cases h1 : smallB xs
      · exact .inl rfl
      · exact .inr ⟨rfl, by simpa [h1] using hv⟩
    clear hv ha hcap hx
    rcases hd with h | ⟨h, h2⟩
    all_goals
      rw [h] at hsm
      clear h
      go_enter Tryz.func44, Tryz.ntmps44
      go_wp2_with fail
      refine hsm.mono ?_
      rintro e w1 ⟨rfl, hB1⟩
      have HF : Hid (FreshPB w (grL xs d) false (.returned (.tuple #[.slice (some ⟨w.heap.size, 0, none⟩) 0 0, .bool false])) w1) :=
        ⟨_, rfl, by rw [E.out]; exact ho0.kept hB1, bthen hB0 hB1⟩
      clear ho0 hB0 hsm hB1
      go_wp2_with (go_at_call 84; refine (c_l4Degree _ _).mono ?_; rw [h2]; rintro e w' ⟨rfl, rfl⟩)
      go_ret2
      exact HF.out
  · have E : Hid (grL xs d = gr xs d) := if_pos hv
    have hv' := hv
    unfold grB at hv'
    rw [Bool.and_eq_true] at hv'
    obtain ⟨hv1, hv2⟩ := hv'
    rw [hv1] at hsm
    obtain ⟨hsp, h1⟩ := smallB_iff.1 hv1
    have hd6 := inB_iff.1 hv2
    have HX := hidd ha
    have HSP := hidd hsp
    have HD : Hid (0 ≤ d ∧ d ≤ 6) := hd6
    clear hv hv1 ha hd6 h1 hsp
    go_enter Tryz.func44, Tryz.ntmps44
    go_wp2_with fail
    refine hsm.mono ?_
    rintro e w1 ⟨rfl, hB1⟩
    have hx1 := HX.out
    have ho1 := ho0.kept hB1
    have hB1' := bthen hB0 hB1
    clear ho0 hB0 hB1 hsm HX
    go_wp2_with (go_at_call 84; refine (c_l4Degree _ _).mono ?_; rw [hv2]; rintro e w' ⟨rfl, rfl⟩)
    clear hv2
    go_loopw [0, 6, 7, 8, 9] (fun s r _ _ _ wr => ∃ (ys : List Int) (pl : List Seg), Hid (gr xs d = pl ++ gr ys d) ∧ Hid (smP ys) ∧ RdI w s ys ∧ CapOk s ∧ OwP wr w.heap.size r pl ∧ pl.length + ys.length ≤ 60 ∧ Below w.heap.size w wr) (fun s _ _ _ _ _ => lenOf s)
    case atStart => exact ⟨xs, [], rfl, HSP.out, hx1, hcap, ho1, by have := HSP.out.2; simp; omega, hB1'⟩
    case round =>
      obtain ⟨ys, pl, HG, HS, hy, hc, ho, hpl, hB⟩ := hrel
      clear ho1 hB1' hx1
      obtain ⟨a, cap, rfl⟩ := RdI_form hy
      have hcc : ys.length ≤ cap := hc _ _ _ rfl
      clear hc
      by_cases hlt : 0 < ys.length
      · have hp := lg_pos HS.out (by omega) HD.out.1 HD.out.2
        have hle := lg_le ys d
        have HLG := hidd (c_l5Longest _ ys d wr (hy.kept hB) (CapOk_of hcc) (by omega))
        have HGC := hidd (gr_cons (l := ys) (d := d) (by intro e; rw [e] at hlt; simp at hlt) hp)
        obtain ⟨m, hm⟩ : ∃ m, lg ys d = m := ⟨_, rfl⟩
        rw [hm] at hp hle HLG HGC
        have hmc : m ≤ cap := by omega
        obtain ⟨A, g1, g2⟩ := sl_from a ys.length cap m hle hcc
        have HRT := hidd (fun W (h : RdI W (.slice a ys.length cap) ys) => c_l5Run _ (ys.take m) d W (RdI_take h (k := m) hle) (CapOk_of hmc) (by simp; omega))
        have HG2 := hidd (g2 w ys rfl hy)
        have HY := hidd (hy.kept hB)
        obtain ⟨rs, q1, q2, q3⟩ := ho
        have hrl : rs.length ≤ 60 := by have := q2.1; omega
        have HQ2 := hidd q2
        have HQ3 := hidd q3
        have HBs : Hid (Below w.heap.size w wr) := hB
        have hym : (ys.drop m).length = ys.length - m := by simp
        have HYM := hidd hym
        clear g2 hy q2 q3 hm hB hym
        go_wp2_with fail
        refine HLG.out.mono ?_
        rintro e w2 ⟨rfl, hB2⟩
        have HY2 := hidd (HY.out.kept hB2)
        have q1b := ownsRow_kept_below q1 hB2
        have HB2 := hidd hB2
        have HQ22 := hidd (HQ2.out.kept hB2)
        clear q1 hB2 HLG
        go_wp2_with fail
        refine (HRT.out _ HY2.out).mono ?_
        rintro e w3 ⟨u, rfl, hu, hB3⟩
        obtain ⟨ua, uc, rfl⟩ := RdI_form (owns_RdI hu)
        have q1c := ownsRow_kept_below q1b hB3
        have HY3 := hidd (HY2.out.kept hB3)
        have HQ23 := hidd (HQ22.out.kept hB3)
        have HU := hidd hu
        have HBt := hidd (bthen (bthen HBs.out HB2.out) hB3)
        have hs3 : w.heap.size ≤ w3.heap.size := HBt.out.size
        have hs2 : wr.heap.size ≤ w2.heap.size := HB2.out.size
        have hsz : w.heap.size ≤ wr.heap.size := HBs.out.size
        have HS32 := hidd hB3.size
        clear q1b hB3 hu
        go_wp2_with (at_builtin; refine appN 23 44 Tryz.underlying23 infoSeg rfl (by decide) (by decide) rfl _ _ rfl w.heap.size _ _ _ rfl (q1c.alloc _) _ _ _ rfl (RdN_seg w3 (m : Int) (.slice ua _ uc)) (one_seg (m : Int) ua _ uc) ?c1 ?c2 ?_)
        case c1 => omega
        case c2 => simp; omega
        intro v' w4 ho4 hg4 _
        have hal : Below w3.heap.size w3 (w3.alloc (.cells #[(.int .i64 ((m : Int))), .slice ua (runL (ys.take m) d).length uc] 44)) := (Below.refl _ _).alloc (Nat.le_refl _) _
        have HO : Hid (OwP w4 w.heap.size v' (pl ++ [((m : Int), runL (ys.take m) d)]) ∧ Below w.heap.size w w4) := by
          refine ⟨OwP_snoc (wr := w2) (q1c.alloc _) (HQ23.out.kept hal) HQ3.out (fun k hk j hj => Nat.lt_of_lt_of_le (HQ2.out.lt k hk j hj) hs2) (ownsRow_kept_below HU.out hal) (Nat.le_trans hsz hs2) ho4 hg4, ?_⟩
          exact (HBt.out.alloc hs3 _).grown hg4 (by simp; omega) (fun j hj => (q1c.lt j hj).1)
        have HG' : Hid (gr xs d = (pl ++ [((m : Int), runL (ys.take m) d)]) ++ gr (ys.drop m) d) := by
          show _ = _
          rw [HG.out, HGC.out, List.append_assoc]; rfl
        have HY' : Hid (RdI w (.slice A (ys.length - m) (cap - m)) (ys.drop m)) := HG2.out
        have HS' := hidd (HS.out.drop m)
        have HL' : Hid ((pl ++ [((m : Int), runL (ys.take m) d)]).length + (ys.drop m).length ≤ 60) := by
          show _ ≤ _
          rw [HYM.out]; simp; omega
        clear ho4 hg4 q1c hal
        go_wp2
        go_roundw
        case rel => exact ⟨ys.drop m, _, HG'.out, HS'.out, HY'.out, CapOk_of (by omega), HO.out.1, HL'.out, HO.out.2⟩
        case measure => simp [lenOf]; omega
      · have HF : Hid (FreshPB w (grL xs d) true (.returned (.tuple #[u6, .bool true])) wr) := by
          have hy0 : ys = [] := List.eq_nil_of_length_eq_zero (by omega)
          subst hy0
          have := HG.out
          rw [gr_nil, List.append_nil] at this
          exact ⟨_, rfl, by rw [E.out, this]; exact ho, hB⟩
        have h0 : ys.length = 0 := by omega
        clear ho hB hy
        go_wp2
        go_ret2
        exact HF.out

set_option maxRecDepth 20000 in
theorem c_spec_GreedyPlan (v : Value) (xs : List Int) (d : Int) (w : World) (ha : RdI w v xs) (hcap : CapOk v) (hx : xs.length ≤ 1099511627776) :
    Calls Tryz.prog 15 #[v, (.int .i64 (d))] w (FreshPB w (grL xs d) (grB xs d)) := by
  have HR := hidd (c_l5RawGreedyPlan v xs d w ha hcap hx)
  have hl := grL_len xs d
  have hm := grL_mem xs d
  have HC : Hid (∀ u W, RdP W u (grL xs d) → Calls Tryz.prog 38 #[u] W (FreshP W (grL xs d))) := fun u W h => c_l9OwnListSegment u _ W h (by omega) (fun s hs => by have := hm s hs; omega)
  clear ha hcap hx hl hm
  go_enter Tryz.func15, Tryz.ntmps15
  go_wp2_with fail
  refine HR.out.mono ?_
  rintro e w1 ⟨u, rfl, ho, hB1⟩
  have HC1 := hidd (HC.out _ _ ho.rd)
  clear ho
  go_wp2_with fail
  refine HC1.out.mono ?_
  rintro e w2 ⟨u2, rfl, ho2, hB2⟩
  have HF : Hid (FreshPB w (grL xs d) (grB xs d) (.returned (.tuple #[u2, .bool (grB xs d)])) w2) := ⟨_, rfl, ho2.mono hB1.size, bthen hB1 hB2⟩
  clear ho2 hB1 hB2
  go_wp2
  go_ret2
  exact HF.out
end Go.Proofs.YtdfnclnjnmdboaaGreatDoor

namespace Go.Proofs.YtdfnclnjnmdboaaGreatDoor
set_option linter.unusedVariables false
open Go.RowKit

/-- segments in memory whose polynomials read as a plan's, in a slice of any owner -/
theorem RdN_of_RdR {w : World} {v : Value} {rs : List RSeg} (h : RdR w v rs) : RdN w 2 v rs.length (segCells rs) := by
  obtain ⟨a, cap, rfl, hc, h⟩ := h
  refine ⟨a, cap, rfl, segCells_len rs, ?_⟩
  rcases h with rfl | ⟨b, off, rfl, hlt, h⟩
  · exact .inl rfl
  · exact .inr ⟨b, off, rfl, hlt, h⟩
theorem segCells_mem : ∀ (rs : List RSeg), (∀ k, k < rs.length → ∃ a n c, (rs.getD k noR).2 = .slice a n c) → ∀ y ∈ segCells rs, y.oneCell' = true
  | [], _, y, h => by cases h
  | s :: rs, hs, y, h => by
    simp only [segCells, List.mem_cons] at h
    rcases h with rfl | rfl | h
    · rfl
    · obtain ⟨a, n, c, e⟩ := hs 0 (by simp)
      simp at e
      rw [e]; rfl
    · exact segCells_mem rs (fun k hk => by have := hs (k + 1) (by simpa using hk); simpa using this) y h
theorem Polys.slices {w : World} {rs : List RSeg} {pl : List Seg} (h : Polys w rs pl) : ∀ k, k < rs.length → ∃ a n c, (rs.getD k noR).2 = .slice a n c := fun k hk => by
  obtain ⟨a, c, e, _⟩ := (h.2 k hk).2.1
  exact ⟨_, _, _, e⟩
theorem getD_takeR (rs : List RSeg) (m k : Nat) (h : k < m) : (rs.take m).getD k noR = rs.getD k noR := by simp [List.getD, h]
theorem getD_takeG (rs : List Seg) (m k : Nat) (h : k < m) : (rs.take m).getD k noG = rs.getD k noG := by simp [List.getD, h]
theorem getD_dropR (rs : List RSeg) (m k : Nat) : (rs.drop m).getD k noR = rs.getD (m + k) noR := by simp [List.getD]
theorem getD_dropG (rs : List Seg) (m k : Nat) : (rs.drop m).getD k noG = rs.getD (m + k) noG := by simp [List.getD]
theorem Polys.take {w : World} {rs : List RSeg} {pl : List Seg} (h : Polys w rs pl) (m : Nat) : Polys w (rs.take m) (pl.take m) :=
  ⟨by simp [h.1], fun k hk => by
    have hk' : k < m ∧ k < rs.length := by simp at hk; omega
    rw [getD_takeR _ _ _ hk'.1, getD_takeG _ _ _ hk'.1]; exact h.2 k hk'.2⟩
theorem Polys.drop {w : World} {rs : List RSeg} {pl : List Seg} (h : Polys w rs pl) (m : Nat) : Polys w (rs.drop m) (pl.drop m) :=
  ⟨by simp [h.1], fun k hk => by
    rw [getD_dropR, getD_dropG]; exact h.2 (m + k) (by simp at hk; omega)⟩
theorem getD_appR (a b : List RSeg) (k : Nat) : (a ++ b).getD k noR = if k < a.length then a.getD k noR else b.getD (k - a.length) noR := by
  by_cases h : k < a.length
  · rw [if_pos h]; simp only [List.getD]; rw [List.getElem?_append_left h]
  · rw [if_neg h]; simp only [List.getD]; rw [List.getElem?_append_right (by omega)]
theorem getD_appG (a b : List Seg) (k : Nat) : (a ++ b).getD k noG = if k < a.length then a.getD k noG else b.getD (k - a.length) noG := by
  by_cases h : k < a.length
  · rw [if_pos h]; simp only [List.getD]; rw [List.getElem?_append_left h]
  · rw [if_neg h]; simp only [List.getD]; rw [List.getElem?_append_right (by omega)]
theorem Polys.app {w : World} {rs ss : List RSeg} {pl ql : List Seg} (h : Polys w rs pl) (k : Polys w ss ql) : Polys w (rs ++ ss) (pl ++ ql) :=
  ⟨by simp [h.1, k.1], fun i hi => by
    rw [getD_appR, getD_appG]
    by_cases hl : i < rs.length
    · rw [if_pos hl, if_pos (by rw [← h.1]; exact hl)]; exact h.2 i hl
    · rw [if_neg hl, if_neg (by rw [← h.1]; exact hl), ← h.1]; exact k.2 _ (by simp at hi; omega)⟩
theorem sizeSeg (w : World) : (sizeOf (Tryz.prog.elem 23)).run Tryz.prog w = .ok 2 w := by kernel_rfl
theorem RdR_sub {w : World} {a : Option Addr} {n cap l h : Nat} {rs : List RSeg} (hr : RdR w (.slice a n cap) rs) (hl : l ≤ h) (hh : h ≤ rs.length) (hc : n = rs.length) :
    RdR w (sliced a l h cap 2) ((rs.take h).drop l) := by
  subst hc
  obtain ⟨a2, c2, e, hcap, hr⟩ := hr
  simp only [Value.slice.injEq, true_and] at e
  obtain ⟨rfl, rfl⟩ := e
  refine ⟨if cap = l then a else a.map (·.add (l * 2)), cap - l, ?_, ?_, ?_⟩
  · unfold sliced; simp; omega
  · simp; omega
  · by_cases hlh : l = h
    · left; subst hlh; simp
    · right
      rcases hr with rfl | ⟨b, off, rfl, hlt, hr⟩
      · simp at hh; omega
      · refine ⟨b, off + l * 2, ?_, hlt, fun i hi => ?_⟩
        · rw [if_neg (by omega), Option.map_some, addr_add]
        · simp at hi
          rw [Nat.add_assoc, hr (l * 2 + i) (by omega), segCells_drop, segCells_take, List.getElem?_drop, List.getElem?_take, if_pos (by omega)]
set_option maxRecDepth 20000 in
/-- plan[l:h], under a name -/
theorem slP_lh (a : Option Addr) (n cap l h : Nat) (hl : l ≤ h) (hh : h ≤ n) (hc : n ≤ cap) : ∃ A, (∀ W, (Instr.slice 23 (.slice a n cap) (some (.int .i64 (l : Int))) (some (.int .i64 (h : Int))) none).run Tryz.prog W = .ok (.slice A (h - l) (cap - l)) W) ∧
    (∀ W rs, rs.length = n → RdR W (.slice a n cap) rs → RdR W (.slice A (h - l) (cap - l)) ((rs.take h).drop l)) := by
  refine ⟨if cap = l then a else a.map (·.add (l * 2)), fun W => ?_, ?_⟩
  · rw [run_slice_lh W 23 a n cap Tryz.underlying23 .i64 .i64 (l : Int) (h : Int) (by omega) (by omega) (by omega), sizeSeg]
    rfl
  · rintro W rs rfl hr
    exact RdR_sub hr hl hh rfl
set_option maxRecDepth 20000 in
theorem slP_from (a : Option Addr) (n cap l : Nat) (hl : l ≤ n) (hc : n ≤ cap) : ∃ A, (∀ W, (Instr.slice 23 (.slice a n cap) (some (.int .i64 (l : Int))) none none).run Tryz.prog W = .ok (.slice A (n - l) (cap - l)) W) ∧
    (∀ W rs, rs.length = n → RdR W (.slice a n cap) rs → RdR W (.slice A (n - l) (cap - l)) (rs.drop l)) := by
  refine ⟨if cap = l then a else a.map (·.add (l * 2)), fun W => ?_, ?_⟩
  · rw [run_slice_l W 23 a n cap Tryz.underlying23 .i64 (l : Int) (by omega) (by omega), sizeSeg]
    rfl
  · rintro W rs rfl hr
    have := RdR_sub hr hl (Nat.le_refl _) rfl
    rwa [List.take_length] at this
theorem RdR_to {W : World} {a : Option Addr} {n cap h : Nat} {rs : List RSeg} (hn : rs.length = n) (hr : RdR W (.slice a n cap) rs) (hh : h ≤ n) : RdR W (.slice a h cap) (rs.take h) := by
  subst hn
  have h1 := RdR_sub hr (Nat.zero_le h) hh rfl
  rw [List.drop_zero] at h1
  have e : sliced a 0 h cap 2 = .slice a h cap := by
    unfold sliced
    cases a with
    | none => simp
    | some x => simp [Addr.add]
  rwa [e] at h1

theorem madeS (w : World) : (w.alloc (.cells #[] 44)).ownsRow w.heap.size 44 2 (.slice (some ⟨w.heap.size, 0, none⟩) 0 0) 0 [] := World.ownsRow_made w #[] 0 (Nat.le_refl _) (by decide) rfl
def EditR (w : World) (rs : List RSeg) (e : Ending) (w' : World) : Prop := ∃ v, e = .returned v ∧ w'.ownsRow w.heap.size 44 2 v rs.length (segCells rs) ∧ Below w.heap.size w w'
set_option maxRecDepth 20000 in
theorem c_l5Edit (v u : Value) (rs ss : List RSeg) (i n : Nat) (w : World) (ha : RdR w v rs) (hu : RdR w u ss) (hin : i + n ≤ rs.length) (hx : rs.length ≤ 1000000) (hy : ss.length ≤ 1000000)
    (h1 : ∀ y ∈ segCells rs, y.oneCell' = true) (h2 : ∀ y ∈ segCells ss, y.oneCell' = true) :
    Calls Tryz.prog 141 #[v, (.int .i64 ((i : Int))), (.int .i64 ((n : Int))), u] w (EditR w (rs.take i ++ ss ++ rs.drop (i + n))) := by
  have hn1 : ∀ y ∈ segCells (rs.take i), y.oneCell' = true := fun y hy => h1 y (by rw [segCells_take] at hy; exact List.mem_of_mem_take hy)
  have hn3 : ∀ y ∈ segCells (rs.drop (i + n)), y.oneCell' = true := fun y hy => h1 y (by rw [segCells_drop] at hy; exact List.mem_of_mem_drop hy)
  have HN1 := hidd hn1
  have HN2 := hidd h2
  have HN3 := hidd hn3
  have ha0 := ha
  obtain ⟨a, cap, rfl, hcc, _⟩ := ha0
  have hu0 := hu
  obtain ⟨ua, ucap, rfl, hucc, _⟩ := hu0
  have ho0 := madeS w
  have hB0 : Below w.heap.size w (w.alloc (.cells #[] 44)) := (Below.refl _ _).alloc (Nat.le_refl _) _
  have hr1 : RdN (w.alloc (.cells #[] 44)) 2 (.slice a i cap) i (segCells (rs.take i)) := by
    have := RdN_of_RdR (RdR_to rfl (ha.kept hB0) (h := i) (by omega))
    rwa [List.length_take, Nat.min_eq_left (by omega)] at this
  have HU := hidd (RdN_of_RdR hu)
  obtain ⟨A, g1, g2⟩ := slP_from a rs.length cap (i + n) hin hcc
  have hr3 : RdN w 2 (.slice A (rs.length - (i + n)) (cap - (i + n))) (rs.length - (i + n)) (segCells (rs.drop (i + n))) := by
    have := RdN_of_RdR (g2 w rs rfl ha)
    rwa [List.length_drop] at this
  have HR3 := hidd hr3
  have HRS : Hid (segCells (rs.take i ++ ss ++ rs.drop (i + n)) = segCells (rs.take i) ++ segCells ss ++ segCells (rs.drop (i + n)) ∧ (rs.take i ++ ss ++ rs.drop (i + n)).length = i + ss.length + (rs.length - (i + n))) := by
    refine ⟨by rw [segCells_append, segCells_append], ?_⟩
    simp; omega
  obtain ⟨m, hm⟩ : ∃ m, rs.length = m := ⟨_, rfl⟩
  obtain ⟨q, hq⟩ : ∃ q, ss.length = q := ⟨_, rfl⟩
  rw [hm] at hin hx hcc g1 HR3 HRS
  rw [hq] at hy hucc HU HRS
  rw [hm, hq]
  have hic : i ≤ cap := by omega
  have hcast : ((i : Int) + (n : Int)) = ((i + n : Nat) : Int) := by push_cast; rfl
  have g1' : ∀ W, (Instr.slice 23 (.slice a m cap) (some (.int .i64 ((i : Int) + (n : Int)))) none none).run Tryz.prog W = .ok (.slice A (m - (i + n)) (cap - (i + n))) W := by rw [hcast]; exact g1
  clear ha hu h1 h2 hn1 hn3 hr3 g2 g1 hm hq hcast
  go_enter Tryz.func141, Tryz.ntmps141
  go_wp2_with (at_builtin; refine appN 23 44 Tryz.underlying23 infoSeg rfl (by decide) (by decide) rfl _ _ rfl w.heap.size _ _ _ rfl ho0 _ _ _ rfl hr1 HN1.out ?c1 ?c2 ?_)
  case c1 => omega
  case c2 => simp
  intro v1 w1 ho1 hg1 _
  have ho1' : w1.ownsRow w.heap.size 44 2 v1 i (segCells (rs.take i)) := by simpa using ho1
  have hB1 : Below w.heap.size w w1 := hB0.grown hg1 (by simp) (fun j hj => (ho0.lt j hj).1)
  have hU1 := HU.out.kept hB1
  have hBs1 := hB1.size
  clear ho1 hg1 hB0 ho0 hr1
  go_wp2_with (at_builtin; refine appN 23 44 Tryz.underlying23 infoSeg rfl (by decide) (by decide) rfl _ _ rfl w.heap.size _ _ _ rfl ho1' _ _ _ rfl hU1 HN2.out ?c3 ?c4 ?_)
  case c3 => omega
  case c4 => exact hBs1
  intro v2 w2 ho2 hg2 _
  have hB2 : Below w.heap.size w w2 := hB1.grown hg2 hBs1 (fun j hj => (ho1'.lt j hj).1)
  have hR2 := HR3.out.kept hB2
  have hBs2 := hB2.size
  clear ho1' hg2 hB1 hU1
  go_wp2_with (at_builtin; refine appN 23 44 Tryz.underlying23 infoSeg rfl (by decide) (by decide) rfl _ _ rfl w.heap.size _ _ _ rfl ho2 _ _ _ rfl hR2 HN3.out ?c5 ?c6 ?_)
  case c5 => omega
  case c6 => exact hBs2
  intro v3 w3 ho3 hg3 _
  have HF : Hid (EditR w (rs.take i ++ ss ++ rs.drop (i + n)) (.returned v3) w3) := by
    refine ⟨_, rfl, ?_, hB2.grown hg3 hBs2 (fun j hj => (ho2.lt j hj).1)⟩
    rw [HRS.out.1, HRS.out.2, List.append_assoc]
    exact ho3
  clear ho3 hg3 ho2 hB2 hR2
  go_wp2
  go_ret
  exact HF.out

/-- a plan with a segment split -/
def spB (pl : List Seg) (i at' : Int) : Bool := planB pl && inB i 0 ((pl.length : Int) - 1) && inB at' 1 ((pl.getD i.toNat noG).1 - 1) && shB (pl.getD i.toNat noG).2 at'.toNat
def spE (pl : List Seg) (i t : Nat) : List Seg := pl.take i ++ [((t : Int), (pl.getD i noG).2), ((pl.getD i noG).1 - t, shf (pl.getD i noG).2 t)] ++ pl.drop (i + 1)
def spL (pl : List Seg) (i at' : Int) : List Seg := if spB pl i at' = true then spE pl i.toNat at'.toNat else []
/-- a plan in memory is returned, whoever owns it -/
def RetPB (w : World) (pl : List Seg) (b : Bool) (e : Ending) (w' : World) : Prop := ∃ v, e = .returned (.tuple #[v, .bool b]) ∧ RdP w' v pl ∧ Below w.heap.size w w'
theorem Polys_lit2 {w : World} {c1 c2 : Int} {v1 v2 : Value} {p1 p2 : List Int} (h1 : RdI w v1 p1) (k1 : CapOk v1) (h2 : RdI w v2 p2) (k2 : CapOk v2) : Polys w [(c1, v1), (c2, v2)] [(c1, p1), (c2, p2)] :=
  ⟨rfl, fun k hk => by
    match k, hk with
    | 0, _ => exact ⟨rfl, h1, k1⟩
    | 1, _ => exact ⟨rfl, h2, k2⟩⟩
theorem RdR_lit2 (W : World) (c1 c2 : Int) (v1 v2 : Value) (t : TypeId) : RdR (W.alloc (.cells #[.int .i64 c1, v1, .int .i64 c2, v2] t)) (.slice (some ⟨W.heap.size, 0, none⟩) 2 2) [(c1, v1), (c2, v2)] := by
  refine ⟨_, 2, rfl, Nat.le_refl _, .inr ⟨W.heap.size, 0, rfl, by simp, fun i hi => ?_⟩⟩
  match i, hi with
  | 0, _ => simp [go_sem, segCells]
  | 1, _ => simp [go_sem, segCells]
  | 2, _ => simp [go_sem, segCells]
  | 3, _ => simp [go_sem, segCells]
theorem keep3c {w wa wb : World} {b o f : Nat} {v0 v1 v2 : Value} (hb : b < w.heap.size) (hf : f < w.heap.size) (h : Below w.heap.size w wa ∧ wa.cell? ⟨b, o, none⟩ = some v0 ∧ wa.cell? ⟨f, 0, none⟩ = some v1 ∧ wa.cell? ⟨f, 1, none⟩ = some v2) (k : Below wa.heap.size wa wb) :
    Below w.heap.size w wb ∧ wb.cell? ⟨b, o, none⟩ = some v0 ∧ wb.cell? ⟨f, 0, none⟩ = some v1 ∧ wb.cell? ⟨f, 1, none⟩ = some v2 := by
  obtain ⟨h0, h1, h2, h3⟩ := h
  have hs := h0.size
  obtain ⟨hc, _⟩ := bcell k
  exact ⟨bthen h0 k, by rw [hc _ _ (by omega)]; exact h1, by rw [hc _ _ (by omega)]; exact h2, by rw [hc _ _ (by omega)]; exact h3⟩
theorem emptyP (w w1 : World) (pl : List Seg) (b : Bool) (hl : pl = []) (h : Below w.heap.size w w1) : RetPB w pl b (.returned (.tuple #[.slice (some ⟨w1.heap.size, 0, none⟩) 0 0, .bool b])) (w1.alloc (.cells #[] 44)) :=
  ⟨_, rfl, by rw [hl]; exact (OwP.made w1 w1.heap.size (Nat.le_refl _)).rd, h.alloc h.size _⟩
theorem RdI_cap {w : World} {v : Value} {xs : List Int} (h : RdI w v xs) (hc : CapOk v) : ∃ a c, v = .slice a xs.length c ∧ xs.length ≤ c := by
  obtain ⟨a, c, rfl⟩ := RdI_form h
  exact ⟨a, c, rfl, hc _ _ _ rfl⟩
set_option maxRecDepth 20000 in
set_option maxHeartbeats 1600000 in
theorem c_l5RawSplitSegment (v : Value) (pl : List Seg) (i at' : Int) (w : World) (ha : RdP w v pl) (hx : pl.length ≤ 1000) (hpx : ∀ s ∈ pl, s.2.length ≤ 1000) (hi1 : i ≤ 9223372036854775807) (hi0 : -9223372036854775808 ≤ i) :
    Calls Tryz.prog 109 #[v, (.int .i64 (i)), (.int .i64 (at'))] w (RetPB w (spL pl i at') (spB pl i at')) := by
  have HO := hidd (c_l9OwnListSegment v pl w ha (by omega) (fun s hs => by have := hpx s hs; omega))
  have HPV : Hid (∀ u W, RdP W u pl → Calls Tryz.prog 25 #[u] W fun e w' => e = .returned (.bool (planB pl)) ∧ Below W.heap.size W w') := fun u W h => c_spec_PlanValid u pl W h (by omega) (fun s hs => by have := hpx s hs; omega)
  clear ha hpx
  cases hv : planB pl
  · have E : Hid (spB pl i at' = false ∧ spL pl i at' = []) := by
      have h : spB pl i at' = false := by unfold spB; rw [hv]; rfl
      exact ⟨h, if_neg (by rw [h]; decide)⟩
    rw [hv] at HPV
    clear hv
    go_enter Tryz.func109, Tryz.ntmps109
    go_wp2_with fail
    refine HO.out.mono ?_
    rintro e w1 ⟨u, rfl, ho, hB1⟩
    have HP := hidd (HPV.out _ _ ho.rd)
    clear ho
    go_wp2_with fail
    refine HP.out.mono ?_
    rintro e w2 ⟨rfl, hB2⟩
    have HF : Hid (RetPB w (spL pl i at') (spB pl i at') (.returned (.tuple #[.slice (some ⟨w2.heap.size, 0, none⟩) 0 0, .bool false])) (w2.alloc (.cells #[] 44))) := by
      rw [E.out.1]; exact emptyP w w2 _ _ E.out.2 (bthen hB1 hB2)
    clear hB1 hB2
    go_wp2
    go_ret2
    exact HF.out
  · have hl60 := planB_len hv
    cases hin : inB i 0 ((pl.length : Int) - 1)
    · have E : Hid (spB pl i at' = false ∧ spL pl i at' = []) := by
        have h : spB pl i at' = false := by unfold spB; rw [hv, hin]; rfl
        exact ⟨h, if_neg (by rw [h]; decide)⟩
      rw [hv] at HPV
      clear hv
      go_enter Tryz.func109, Tryz.ntmps109
      go_wp2_with fail
      refine HO.out.mono ?_
      rintro e w1 ⟨u, rfl, ho, hB1⟩
      have HP := hidd (HPV.out _ _ ho.rd)
      obtain ⟨ua, ucap, rfl, huc⟩ := ho.form
      clear ho
      go_wp2_with fail
      refine HP.out.mono ?_
      rintro e w2 ⟨rfl, hB2⟩
      have HF : Hid (RetPB w (spL pl i at') (spB pl i at') (.returned (.tuple #[.slice (some ⟨w2.heap.size, 0, none⟩) 0 0, .bool false])) (w2.alloc (.cells #[] 44))) := by
        rw [E.out.1]; exact emptyP w w2 _ _ E.out.2 (bthen hB1 hB2)
      clear hB1 hB2
      go_wp2_with (go_at_call 60; refine (c_l1In _ _ _ _).mono ?_; rw [hin]; rintro e w' ⟨rfl, rfl⟩)
      go_ret2
      exact HF.out
    · obtain ⟨i1, i2⟩ := inB_iff.1 hin
      obtain ⟨I, rfl⟩ : ∃ I : Nat, i = I := ⟨i.toNat, by omega⟩
      have hI : I < pl.length := by omega
      have hseg := segB_iff (all_getG (planB_iff.1 hv).2.1 hI)
      have hsb : spB pl (I : Int) at' = (inB at' 1 ((pl.getD I noG).1 - 1) && shB (pl.getD I noG).2 at'.toNat) := by
        unfold spB; rw [hv, hin]; simp
      rw [hv] at HPV
      clear hv hi0 hi1
      have HSE : Hid (spE pl I at'.toNat = pl.take I ++ [((at'.toNat : Int), (pl.getD I noG).2), ((pl.getD I noG).1 - at'.toNat, shf (pl.getD I noG).2 at'.toNat)] ++ pl.drop (I + 1)) := rfl
      obtain ⟨s, hs⟩ : ∃ s, pl.getD I noG = s := ⟨_, rfl⟩
      rw [hs] at hseg hsb HSE
      obtain ⟨c, p⟩ := s
      have HS := hidd hs
      obtain ⟨c1, c2, hpv, _⟩ := hseg
      have c1 : 1 ≤ c := c1
      have c2 : c ≤ 60 := c2
      have hpv : polyB p = true := hpv
      have hp7 := (polyB_iff hpv).2.1
      have hsb : spB pl (I : Int) at' = (inB at' 1 (c - 1) && shB p at'.toNat) := hsb
      have j1 : (0 : Int) ≤ (I : Int) := by omega
      have j2 : (I : Int) < (pl.length : Int) := by omega
      clear hs
      cases hat : inB at' 1 (c - 1)
      · have E : Hid (spB pl (I : Int) at' = false ∧ spL pl (I : Int) at' = []) := by
          have h : spB pl (I : Int) at' = false := by rw [hsb, hat]; rfl
          exact ⟨h, if_neg (by rw [h]; decide)⟩
        clear hsb
        go_enter Tryz.func109, Tryz.ntmps109
        go_wp2_with fail
        refine HO.out.mono ?_
        rintro e w1 ⟨u, rfl, ho, hB1⟩
        have HP := hidd (HPV.out _ _ ho.rd)
        obtain ⟨ua, ucap, rfl, huc⟩ := ho.form
        have HR := hidd ho.rd
        clear ho
        go_wp2_with fail
        refine HP.out.mono ?_
        rintro e w2 ⟨rfl, hB2⟩
        obtain ⟨b, o, pa, pn, pc, rfl, hb, e1, e2, hp, hpc, hpn⟩ := HR.out.cell hB2 hI
        rw [HS.out] at e1
        have HF : Hid (RetPB w (spL pl (I : Int) at') (spB pl (I : Int) at') (.returned (.tuple #[.slice (some ⟨w2.heap.size, 0, none⟩) 0 0, .bool false])) (w2.alloc (.cells #[] 44))) := by
          rw [E.out.1]; exact emptyP w w2 _ _ E.out.2 (bthen hB1 hB2)
        clear hB1 hB2 hp hpc hpn
        go_wp2_with (go_at_call 60; refine (c_l1In _ _ _ _).mono ?_; (first | rw [hin] | rw [hat]); rintro e w' ⟨rfl, rfl⟩)
        go_ret2
        exact HF.out
      · obtain ⟨t1, t2⟩ := inB_iff.1 hat
        obtain ⟨T, rfl⟩ : ∃ T : Nat, at' = T := ⟨at'.toNat, by omega⟩
        rw [Int.toNat_natCast] at hsb HSE
        have hT : T ≤ 59 := by omega
        have HSH : Hid (∀ u W, RdI W u p → Calls Tryz.prog 140 #[u, (.int .i64 ((T : Int)))] W (FreshIB W (shfL p T) (shB p T))) := fun u W h => c_spec_ShiftPoly u p T W h (by omega) (by omega)
        cases hsh : shB p T
        · have E : Hid (spB pl (I : Int) (T : Int) = false ∧ spL pl (I : Int) (T : Int) = []) := by
            have h : spB pl (I : Int) (T : Int) = false := by rw [hsb, hsh, Bool.and_false]
            exact ⟨h, if_neg (by rw [h]; decide)⟩
          rw [hsh] at HSH
          clear hsb
          go_enter Tryz.func109, Tryz.ntmps109
          go_wp2_with fail
          refine HO.out.mono ?_
          rintro e w1 ⟨u, rfl, ho, hB1⟩
          have HP := hidd (HPV.out _ _ ho.rd)
          obtain ⟨ua, ucap, rfl, huc⟩ := ho.form
          have HR := hidd ho.rd
          clear ho
          go_wp2_with fail
          refine HP.out.mono ?_
          rintro e w2 ⟨rfl, hB2⟩
          obtain ⟨b, o, pa, pn, pc, rfl, hb, e1, e2, hp, hpc, hpn⟩ := HR.out.cell hB2 hI
          rw [HS.out] at e1 hp
          have HS1 := hidd (HSH.out _ _ (hp.kept hB2))
          have HB := hidd (bthen hB1 hB2)
          clear hB1 hB2 hp hpc hpn
          go_wp2_with (go_at_call 60; refine (c_l1In _ _ _ _).mono ?_; (first | rw [hin] | rw [hat]); rintro e w' ⟨rfl, rfl⟩)
          refine HS1.out.mono ?_
          rintro e w3 ⟨q, rfl, hq, hB3⟩
          have HF : Hid (RetPB w (spL pl (I : Int) (T : Int)) (spB pl (I : Int) (T : Int)) (.returned (.tuple #[.slice (some ⟨w3.heap.size, 0, none⟩) 0 0, .bool false])) (w3.alloc (.cells #[] 44))) := by
            rw [E.out.1]; exact emptyP w w3 _ _ E.out.2 (bthen HB.out hB3)
          clear hq hB3
          go_wp2
          go_ret2
          exact HF.out
        · have E : Hid (spB pl (I : Int) (T : Int) = true ∧ spL pl (I : Int) (T : Int) = spE pl I T) := by
            have h : spB pl (I : Int) (T : Int) = true := by rw [hsb, hat, hsh]; rfl
            exact ⟨h, if_pos h⟩
          have HSL : Hid (shfL p T = shf p T) := if_pos hsh
          rw [hsh] at HSH
          clear hsb
          go_enter Tryz.func109, Tryz.ntmps109
          go_wp2_with fail
          refine HO.out.mono ?_
          rintro e w1 ⟨u, rfl, ho, hB1⟩
          have HP := hidd (HPV.out _ _ ho.rd)
          obtain ⟨ua, ucap, rfl, huc⟩ := ho.form
          have HR := hidd ho.rd
          clear ho
          go_wp2_with fail
          refine HP.out.mono ?_
          rintro e w2 ⟨rfl, hB2⟩
          obtain ⟨b, o, pa, pn, pc, rfl, hb, e1, e2, hp, hpc, hpn⟩ := HR.out.cell hB2 hI
          rw [HS.out] at e1 hp
          have HS1 := hidd (HSH.out _ _ (hp.kept hB2))
          have HB := hidd (bthen hB1 hB2)
          have HPP := hidd (hp.kept hB2)
          have HR2 := hidd (HR.out.kept hB2)
          have hb2 : b < w2.heap.size := by have := hB2.size; omega
          clear hB1 hB2 hp hpn
          go_wp2_with (go_at_call 60; refine (c_l1In _ _ _ _).mono ?_; (first | rw [hin] | rw [hat]); rintro e w' ⟨rfl, rfl⟩)
          refine HS1.out.mono ?_
          rintro e w3 ⟨q, rfl, hq, hB3⟩
          obtain ⟨qa, qc, rfl, hqc⟩ := RdI_cap (owns_RdI hq) (owns_CapOk hq)
          have k1 : w3.cell? ⟨b, o + I * 2, none⟩ = some (.int .i64 c) := by rw [(bcell hB3).1 _ _ hb2]; exact e1
          have k2 : w3.cell? ⟨b, o + I * 2 + 1, none⟩ = some (.slice pa pn pc) := by rw [(bcell hB3).1 _ _ hb2]; exact e2
          have HB3 := hidd (bthen HB.out hB3)
          have HPQ := hidd (HPP.out.kept hB3)
          have HR3 := hidd (HR2.out.kept hB3)
          have HQ := hidd (owns_RdI hq)
          have hb3 : b < w3.heap.size := by have := hB3.size; omega
          have hsl := shf_len p T
          clear hq hB3 e1 e2
          have hB5 : Below w3.heap.size w3 (w3.alloc (.cells #[(.int .i64 ((T : Int))), .slice pa pn pc] 44)) := (Below.refl _ _).alloc (Nat.le_refl _) _
          have hf : w3.heap.size < (w3.alloc (.cells #[(.int .i64 ((T : Int))), .slice pa pn pc] 44)).heap.size := by simp
          have k3 : (w3.alloc (.cells #[(.int .i64 ((T : Int))), .slice pa pn pc] 44)).cell? ⟨b, o + I * 2, none⟩ = some (.int .i64 c) := by rw [(bcell hB5).1 _ _ hb3]; exact k1
          have k4 : (w3.alloc (.cells #[(.int .i64 ((T : Int))), .slice pa pn pc] 44)).cell? ⟨w3.heap.size, 0, none⟩ = some (.int .i64 ((T : Int))) := by simp [go_sem]
          have k5 : (w3.alloc (.cells #[(.int .i64 ((T : Int))), .slice pa pn pc] 44)).cell? ⟨w3.heap.size, 1, none⟩ = some (.slice pa pn pc) := by simp [go_sem]
          go_wp2
          generalize hW5 : w3.alloc (.cells #[(.int .i64 ((T : Int))), .slice pa pn pc] 44) = w5 at *
          generalize hfs : w3.heap.size = f at *
          have HB5 := hidd hB5
          have hb5 : b < w5.heap.size := by omega
          obtain ⟨rs, hrr, hpp⟩ := HR3.out
          rw [← hfs] at hB5
          have HRR := hidd (hrr.kept hB5)
          have HPO := hidd (hpp.kept hB5)
          have HP5 := hidd (HPQ.out.kept hB5)
          have HQ5 := hidd (HQ.out.kept hB5)
          have HB3' := hidd (HB3.out)
          have HFS := hidd hfs
          have hrl := hpp.1
          have HB15 := hidd (bthen HB3.out hB5)
          have hk0 : Below w5.heap.size w5 w5.drew ∧ w5.drew.cell? ⟨b, o + I * 2, none⟩ = some (.int .i64 c) ∧ w5.drew.cell? ⟨f, 0, none⟩ = some (.int .i64 ((T : Int))) ∧ w5.drew.cell? ⟨f, 1, none⟩ = some (.slice pa pn pc) := ⟨(Below.refl _ _).drew, k3, k4, k5⟩
          have g1 : IntKind.i64.wrap (c - (T : Int)) = c - (T : Int) := IntWalk.i64_in _ (by omega)
          have HSLn : Hid ((shfL p T).length ≤ 7) := by show _ ≤ _; rw [HSL.out, hsl]; exact hp7
          have hal : Below w5.heap.size w5 (w5.alloc (.cells #[(.int .i64 ((T : Int))), .slice pa pn pc, .int .i64 (c - (T : Int)), .slice qa (shfL p T).length qc] 44)).drew := ((Below.refl _ _).alloc (Nat.le_refl _) _).drew
          have hk1 := keep3c hb5 hf (⟨Below.refl _ _, k3, k4, k5⟩ : Below w5.heap.size w5 w5 ∧ w5.cell? ⟨b, o + I * 2, none⟩ = some (.int .i64 c) ∧ w5.cell? ⟨f, 0, none⟩ = some (.int .i64 ((T : Int))) ∧ w5.cell? ⟨f, 1, none⟩ = some (.slice pa pn pc)) hal
          have HED : Hid (Calls Tryz.prog 141 #[.slice (some ⟨b, o, none⟩) pl.length ucap, (.int .i64 ((I : Int))), (.int .i64 (1)), .slice (some ⟨w5.heap.size, 0, none⟩) 2 2] (w5.alloc (.cells #[(.int .i64 ((T : Int))), .slice pa pn pc, .int .i64 (c - (T : Int)), .slice qa (shfL p T).length qc] 44)).drew
                (EditR (w5.alloc (.cells #[(.int .i64 ((T : Int))), .slice pa pn pc, .int .i64 (c - (T : Int)), .slice qa (shfL p T).length qc] 44)).drew (rs.take I ++ [((T : Int), .slice pa pn pc), (c - (T : Int), .slice qa (shfL p T).length qc)] ++ rs.drop (I + 1)))) := by
            refine c_l5Edit _ _ rs [((T : Int), .slice pa pn pc), (c - (T : Int), .slice qa (shfL p T).length qc)] I 1 _ (HRR.out.kept hal) (RdR_lit2 w5 _ _ _ _ _) (by omega) (by omega) (by simp) (segCells_mem rs HPO.out.slices) ?_
            exact segCells_mem _ (Polys_lit2 (c1 := (T : Int)) (c2 := c - (T : Int)) HP5.out (CapOk_of hpc) HQ5.out (CapOk_of hqc)).slices
          clear hrr hpp hB5 HR3 k1 k2 k3 k4 k5 hW5 hfs hrl hsl
          go_wp2
          go_region_held3 (fun wx => Below w5.heap.size w5 wx ∧ wx.cell? ⟨b, o + I * 2, none⟩ = some (.int .i64 c) ∧ wx.cell? ⟨f, 0, none⟩ = some (.int .i64 ((T : Int))) ∧ wx.cell? ⟨f, 1, none⟩ = some (.slice pa pn pc)) (first | assumption | exact hk0 | exact hk1 | exact keep3c hb5 hf hk1 (by assumption))
            ((go_at_call 141; refine HED.out.mono ?_; rintro e w6 ⟨vv, rfl, ho6, hB6⟩))
          have HPF : Hid (Polys w6 (rs.take I ++ [((T : Int), .slice pa pn pc), (c - (T : Int), .slice qa (shfL p T).length qc)] ++ rs.drop (I + 1)) (spE pl I T)) := by
            have hb6 := bthen hal hB6
            rw [HSE.out]
            have hq5 := HQ5.out
            rw [HSL.out] at hq5 ⊢
            exact (((HPO.out.take I).app (Polys_lit2 (c1 := (T : Int)) (c2 := c - (T : Int)) HP5.out (CapOk_of hpc) hq5 (by rw [← HSL.out]; exact CapOk_of hqc))).app (HPO.out.drop (I + 1))).kept hb6
          have HF : Hid (RetPB w (spL pl (I : Int) (T : Int)) (spB pl (I : Int) (T : Int)) (.returned (.tuple #[vv, .bool true])) w6) := by
            rw [E.out.1, E.out.2]
            exact ⟨_, rfl, ⟨_, owns_RdR ho6, HPF.out⟩, bthen HB15.out (bthen hal hB6)⟩
          clear ho6 hB6 hal hk0 hk1 g1
          go_wp2
          go_ret2
          exact HF.out

theorem spE_len {pl : List Seg} {i t : Nat} (h : i < pl.length) : (spE pl i t).length = pl.length + 1 := by
  unfold spE; simp; omega
theorem spE_mem {pl : List Seg} {i t M : Nat} (h : ∀ s ∈ pl, s.2.length ≤ M) (hi : i < pl.length) : ∀ s ∈ spE pl i t, s.2.length ≤ M := by
  intro s hs
  have hm := h (pl.getD i noG) (by simp [List.getD, hi])
  unfold spE at hs
  simp only [List.append_assoc, List.mem_append, List.mem_cons, List.not_mem_nil, or_false] at hs
  rcases hs with hs | (rfl | rfl) | hs
  · exact h s (List.mem_of_mem_take hs)
  · exact hm
  · show (shf _ _).length ≤ M
    rw [shf_len]; exact hm
  · exact h s (List.mem_of_mem_drop hs)
theorem spB_iff {pl : List Seg} {i t : Int} (h : spB pl i t = true) : planB pl = true ∧ 0 ≤ i ∧ i.toNat < pl.length ∧ 1 ≤ t ∧ t ≤ (pl.getD i.toNat noG).1 - 1 ∧ shB (pl.getD i.toNat noG).2 t.toNat = true := by
  unfold spB at h
  simp only [Bool.and_eq_true] at h
  obtain ⟨⟨⟨h1, h2⟩, h3⟩, h4⟩ := h
  have a := inB_iff.1 h2
  have b := inB_iff.1 h3
  exact ⟨h1, a.1, by omega, b.1, b.2, h4⟩
theorem spL_len (pl : List Seg) (i t : Int) : (spL pl i t).length ≤ pl.length + 1 := by
  unfold spL
  split
  · rename_i h
    rw [spE_len (spB_iff h).2.2.1]; omega
  · simp
theorem spL_mem {pl : List Seg} {M : Nat} (i t : Int) (h : ∀ s ∈ pl, s.2.length ≤ M) : ∀ s ∈ spL pl i t, s.2.length ≤ M := by
  unfold spL
  split
  · rename_i hb
    exact spE_mem h (spB_iff hb).2.2.1
  · intro s hs; cases hs
set_option maxRecDepth 20000 in
theorem c_spec_SplitSegment (v : Value) (pl : List Seg) (i at' : Int) (w : World) (ha : RdP w v pl) (hx : pl.length ≤ 900) (hpx : ∀ s ∈ pl, s.2.length ≤ 1000) (hi1 : i ≤ 9223372036854775807) (hi0 : -9223372036854775808 ≤ i) :
    Calls Tryz.prog 74 #[v, (.int .i64 (i)), (.int .i64 (at'))] w (FreshPB w (spL pl i at') (spB pl i at')) := by
  have HR := hidd (c_l5RawSplitSegment v pl i at' w ha (by omega) hpx hi1 hi0)
  have hl := spL_len pl i at'
  have hm := spL_mem i at' hpx
  have HC : Hid (∀ u W, RdP W u (spL pl i at') → Calls Tryz.prog 38 #[u] W (FreshP W (spL pl i at'))) := fun u W h => c_l9OwnListSegment u _ W h (by omega) (fun s hs => by have := hm s hs; omega)
  clear ha hx hl hm hpx hi0 hi1
  go_enter Tryz.func74, Tryz.ntmps74
  go_wp2_with fail
  refine HR.out.mono ?_
  rintro e w1 ⟨u, rfl, ho, hB1⟩
  have HC1 := hidd (HC.out _ _ ho)
  clear ho
  go_wp2_with fail
  refine HC1.out.mono ?_
  rintro e w2 ⟨u2, rfl, ho2, hB2⟩
  have HF : Hid (FreshPB w (spL pl i at') (spB pl i at') (.returned (.tuple #[u2, .bool (spB pl i at')])) w2) := ⟨_, rfl, ho2.mono hB1.size, bthen hB1 hB2⟩
  clear ho2 hB1 hB2
  go_wp2
  go_ret2
  exact HF.out
end Go.Proofs.YtdfnclnjnmdboaaGreatDoor

namespace Go.Proofs.YtdfnclnjnmdboaaGreatDoor
set_option linter.unusedVariables false
open Go.RowKit

theorem take_drop_lh (xs : List Int) (f c : Nat) : (xs.take (f + c)).drop f = (xs.drop f).take c := by
  rw [List.drop_take]; congr 1; omega
set_option maxRecDepth 20000 in
set_option maxHeartbeats 400000 in
theorem c_LongestRun (v : Value) (xs : List Int) (f : Nat) (d : Int) (w : World) (ha : RdI w v xs) (hcap : CapOk v) (hs : smallB xs = true) (hd : inB d 0 6 = true) (hf : f ≤ xs.length) :
    Calls Tryz.prog 43 #[v, (.int .i64 ((f : Int))), (.int .i64 (d))] w fun e w' => e = .returned (.int .i64 (lg (xs.drop f) d)) ∧ Below w.heap.size w w' := by
  obtain ⟨hsp, h1⟩ := smallB_iff.1 hs
  have hl60 := hsp.2
  have hsm := c_smallTable v xs w ha (by omega)
  rw [hs] at hsm
  obtain ⟨a, cap, rfl⟩ := RdI_form ha
  have hcc : xs.length ≤ cap := hcap _ _ _ rfl
  have hd6 := inB_iff.1 hd
  have HLG : Hid (lg (xs.drop f) d ≤ xs.length - f ∧ (∀ c, 1 ≤ c → c ≤ lg (xs.drop f) d → runB ((xs.drop f).take c) d = true) ∧ ∀ c, 1 ≤ c → c ≤ xs.length - f → runB ((xs.drop f).take c) d = true → c ≤ lg (xs.drop f) d) := by
    refine ⟨?_, fun c h1 h2 => lg_run h1 h2, fun c h1 h2 h3 => lg_max (hsp.drop f) hd6.2 h1 (by simp; omega) h3⟩
    have := lg_le (xs.drop f) d
    simpa using this
  have hfn : decide ((f : Int) < 0) = false := decide_eq_false (by omega)
  have hfl : decide (xs.length < f) = false := decide_eq_false (by omega)
  clear hs hsp hcap hd6
  go_enter Tryz.func43, Tryz.ntmps43
  go_wp2_with fail
  refine hsm.mono ?_
  rintro e w1 ⟨rfl, hB1⟩
  have ha1 := ha.kept hB1
  clear hsm ha
  go_wp2_with (go_at_call 41; refine (c_degreeValid _ _).mono ?_; rw [hd]; rintro e w' ⟨rfl, rfl⟩)
  clear hd
  go_loopw [7] (fun i wr => ∃ c : Nat, c ≤ xs.length - f ∧ i = .int .i64 c ∧ Hid (lg (xs.drop f) d ≤ c) ∧ Below w1.heap.size w1 wr) (fun i _ => (intOf i).toNat)
  case atStart => exact ⟨xs.length - f, Nat.le_refl _, by go_num, HLG.out.1, Below.refl _ _⟩
  case round =>
    obtain ⟨c, hc, rfl, HL, hB⟩ := hrel
    by_cases hc0 : 0 < c
    · obtain ⟨A, g1, g2⟩ := sl_lh a xs.length cap f (f + c) (by omega) (by omega) hcc
      have hr := g2 wr xs rfl (ha1.kept hB)
      rw [take_drop_lh] at hr
      have e1 : f + c - f = c := by omega
      have e2 : ((f + c : Nat) : Int) = (f : Int) + (c : Int) := by push_cast; rfl
      rw [e1] at hr g1
      rw [e2] at g1
      have HC := hidd (c_runOf _ ((xs.drop f).take c) d wr hr (CapOk_of (by omega)) (by simp; omega))
      clear g2 hr e1 e2
      cases hrb : runB ((xs.drop f).take c) d
      · have HN : Hid (lg (xs.drop f) d ≤ c - 1) := by
          show _ ≤ _
          have h1 := HL.out
          rcases Nat.lt_or_ge (lg (xs.drop f) d) c with h | h
          · omega
          · have := HLG.out.2.1 c (by omega) h
            rw [hrb] at this; cases this
        rw [hrb] at HC
        clear hrb HL
        go_wp2_with fail
        refine HC.out.mono ?_
        rintro e w2 ⟨u, rfl, ho, hB2⟩
        have HB := hidd (bthen hB hB2)
        clear ho hB2 hB g1
        go_wp2
        go_roundw
        case rel => exact ⟨c - 1, by omega, by go_num, HN.out, HB.out⟩
        case measure => simp [intOf]; omega
      · have HN : Hid (lg (xs.drop f) d = c) := by
          have h1 := HL.out
          have h2 := HLG.out.2.2 c (by omega) hc hrb
          show _ = _
          omega
        rw [hrb] at HC
        clear hrb HL
        go_wp2_with fail
        refine HC.out.mono ?_
        rintro e w2 ⟨u, rfl, ho, hB2⟩
        have HB := hidd (bthen hB1 (bthen hB hB2))
        clear ho hB2 hB g1
        go_wp2
        go_ret
        exact ⟨ret_int (by rw [HN.out]), HB.out⟩
    · have HN : Hid (lg (xs.drop f) d = 0) := by
        have := HL.out
        show _ = _
        omega
      clear HL
      go_wp2
      go_ret
      exact ⟨ret_int (by rw [HN.out]; rfl), bthen hB1 hB⟩

def SegRB (w : World) (c : Int) (p : List Int) (e : Ending) (w' : World) : Prop := ∃ qa qn qc, e = .returned (.tuple #[.agg #[.int .i64 c, .slice qa qn qc], .bool true]) ∧ OwnI w' w.heap.size (.slice qa qn qc) p ∧ Below w.heap.size w w'
set_option maxRecDepth 20000 in
theorem c_SegmentOf (v : Value) (xs : List Int) (f c : Nat) (d : Int) (w : World) (ha : RdI w v xs) (hcap : CapOk v) (hs : smallB xs = true) (hd : inB d 0 6 = true) (hf : f < xs.length) (hc1 : 1 ≤ c) (hc2 : f + c ≤ xs.length) (hr : runB ((xs.drop f).take c) d = true) :
    Calls Tryz.prog 42 #[v, (.int .i64 ((f : Int))), (.int .i64 ((c : Int))), (.int .i64 (d))] w (SegRB w (c : Int) (ip ((xs.drop f).take c))) := by
  obtain ⟨hsp, h1⟩ := smallB_iff.1 hs
  have hl60 := hsp.2
  have hB0 : Below w.heap.size w (w.alloc (.cells #[.int .i64 0, .slice none 0 0] 44)) := (Below.refl _ _).alloc (Nat.le_refl _) _
  have hsm := c_smallTable v xs _ (ha.kept hB0) (by omega)
  rw [hs] at hsm
  obtain ⟨a, cap, rfl⟩ := RdI_form ha
  have hcc : xs.length ≤ cap := hcap _ _ _ rfl
  obtain ⟨A, g1, g2⟩ := sl_lh a xs.length cap f (f + c) (by omega) (by omega) hcc
  have e1 : f + c - f = c := by omega
  have e2 : ((f + c : Nat) : Int) = (f : Int) + (c : Int) := by push_cast; rfl
  rw [e1] at g2 g1
  rw [e2] at g1
  have HC : Hid (∀ W, RdI W (.slice a xs.length cap) xs → Calls Tryz.prog 49 #[.slice A c (cap - f), (.int .i64 (d))] W (FreshIB W (ip ((xs.drop f).take c)) true)) := by
    show ∀ W, _
    intro W h
    have hr2 := g2 W xs rfl h
    rw [take_drop_lh] at hr2
    have := c_runOf _ ((xs.drop f).take c) d W hr2 (CapOk_of (by omega)) (by simp; omega)
    rwa [hr, runL_t hr] at this
  have hnl : ¬ (xs.length : Int) - (f : Int) < (c : Int) := by omega
  clear hs hsp hcap g2 hr e1 e2
  go_enter Tryz.func42, Tryz.ntmps42
  go_wp2_with fail
  refine hsm.mono ?_
  rintro e w1 ⟨rfl, hB1⟩
  have ha1 := (ha.kept hB0).kept hB1
  have hcell0 : w1.cell? ⟨w.heap.size, 0, none⟩ = some (.int .i64 0) := by rw [hB1.cell (p := ⟨w.heap.size, 0, none⟩) (by simp)]; simp [go_sem]
  have hcell1 : w1.cell? ⟨w.heap.size, 1, none⟩ = some (.slice none 0 0) := by rw [hB1.cell (p := ⟨w.heap.size, 1, none⟩) (by simp)]; simp [go_sem]
  have hf0 : w1.frozen? ⟨w.heap.size, 0, none⟩ = false := by rw [hB1.frozen (p := ⟨w.heap.size, 0, none⟩) (by simp)]; simp [go_sem]
  have hf1 : w1.frozen? ⟨w.heap.size, 1, none⟩ = false := by rw [hB1.frozen (p := ⟨w.heap.size, 1, none⟩) (by simp)]; simp [go_sem]
  have hsz1 : w.heap.size + 1 ≤ w1.heap.size := by have := hB1.size; simpa using this
  have HB1 := hidd (bthen hB0 hB1)
  clear hsm ha hB1 hB0
  go_wp2_with (go_at_call 41; refine (c_degreeValid _ _).mono ?_; rw [hd]; rintro e w' ⟨rfl, rfl⟩)
  refine (HC.out _ ha1).mono ?_
  rintro e w2 ⟨u, rfl, ho, hB2⟩
  obtain ⟨qa, qc, rfl⟩ := RdI_form (owns_RdI ho)
  have k0 : w2.cell? ⟨w.heap.size, 0, none⟩ = some (.int .i64 0) := by rw [(bcell hB2).1 _ _ (by omega)]; exact hcell0
  have k1 : w2.cell? ⟨w.heap.size, 1, none⟩ = some (.slice none 0 0) := by rw [(bcell hB2).1 _ _ (by omega)]; exact hcell1
  have f0 : w2.frozen? ⟨w.heap.size, 0, none⟩ = false := by rw [(bcell hB2).2 _ _ (by omega)]; exact hf0
  have f1 : w2.frozen? ⟨w.heap.size, 1, none⟩ = false := by rw [(bcell hB2).2 _ _ (by omega)]; exact hf1
  have HB2 := hidd (bthen HB1.out hB2)
  have HO := hidd ho
  clear hcell0 hcell1 hf0 hf1 hB2 ho ha1 g1 hd
  go_wp2
  refine bodyPost_ret (v := .tuple #[.agg #[.int .i64 c, .slice qa (ip ((xs.drop f).take c)).length qc], .bool true]) (by simp [results, Tryz.results42, go_sem, k0, k1]) rfl ⟨_, _, _, rfl, ?_, ?_⟩
  · exact ownsRow_mono (own_set (own_set HO.out (by omega)) (by omega)) (by omega)
  · exact (HB2.out.setCell (p := ⟨w.heap.size, 0, none⟩) (Nat.le_refl _) _).setCell (p := ⟨w.heap.size, 1, none⟩) (Nat.le_refl _) _

set_option maxRecDepth 20000 in
set_option maxHeartbeats 800000 in
theorem c_impl_GreedyPlan (v : Value) (xs : List Int) (d : Int) (w : World) (ha : RdI w v xs) (hcap : CapOk v) (hx : xs.length ≤ 1099511627776) :
    Calls Tryz.prog 14 #[v, (.int .i64 (d))] w (FreshPB w (grL xs d) (grB xs d)) := by
  have hsm := c_smallTable v xs w ha hx
  cases hv : grB xs d
  · have E : Hid (grL xs d = []) := if_neg (by rw [hv]; decide)
    have hd : smallB xs = false ∨ (smallB xs = true ∧ inB d 0 6 = false) := by
      unfold grB at hv
      cases h1 : smallB xs
      · exact .inl rfl
      · exact .inr ⟨rfl, by simpa [h1] using hv⟩
    clear hv ha hcap hx
    rcases hd with h | ⟨h, h2⟩
    all_goals
      rw [h] at hsm
      clear h
      go_enter Tryz.func14, Tryz.ntmps14
      go_wp2_with fail
      refine hsm.mono ?_
      rintro e w1 ⟨rfl, hB1⟩
      have HF : Hid (FreshPB w (grL xs d) false (.returned (.tuple #[.slice none 0 0, .bool false])) w1) :=
        ⟨_, rfl, by rw [E.out]; exact OwP.nil _ _, hB1⟩
      clear hsm hB1
      go_wp2_with (go_at_call 41; refine (c_degreeValid _ _).mono ?_; rw [h2]; rintro e w' ⟨rfl, rfl⟩)
      go_ret2
      exact HF.out
  · have E : Hid (grL xs d = gr xs d) := if_pos hv
    have hv' := hv
    unfold grB at hv'
    rw [Bool.and_eq_true] at hv'
    obtain ⟨hv1, hv2⟩ := hv'
    rw [hv1] at hsm
    obtain ⟨hsp, h1⟩ := smallB_iff.1 hv1
    have hl60 := hsp.2
    have hd6 := inB_iff.1 hv2
    have HSP := hidd hsp
    have HV1 := hidd hv1
    have HV2 := hidd hv2
    have HD : Hid (0 ≤ d ∧ d ≤ 6) := hd6
    have ho0 := OwP.nil w w.heap.size
    obtain ⟨a, cap, rfl⟩ := RdI_form ha
    have hcc : xs.length ≤ cap := hcap _ _ _ rfl
    clear hv hv1 hd6 hsp hcap hx
    go_enter Tryz.func14, Tryz.ntmps14
    go_wp2_with fail
    refine hsm.mono ?_
    rintro e w1 ⟨rfl, hB1⟩
    have ho1 := ho0.kept hB1
    have HB1 := hidd hB1
    clear hsm ho0
    go_wp2_with (go_at_call 41; refine (c_degreeValid _ _).mono ?_; rw [hv2]; rintro e w' ⟨rfl, rfl⟩)
    clear hv2
    go_loopw [6, 7, 8, 9] (fun r i _ _ wr => ∃ (F : Nat) (pl : List Seg), F ≤ xs.length ∧ i = .int .i64 F ∧ Hid (gr xs d = pl ++ gr (xs.drop F) d) ∧ OwP wr w.heap.size r pl ∧ pl.length ≤ F ∧ Below w.heap.size w wr) (fun _ i _ _ _ => xs.length - (intOf i).toNat)
    case atStart => exact ⟨0, [], by omega, rfl, rfl, ho1, by simp, hB1⟩
    case round =>
      obtain ⟨F, pl, hF, rfl, HG, ho, hpl, hB⟩ := hrel
      clear ho1 hB1
      by_cases hlt : F < xs.length
      · have hle := lg_le (xs.drop F) d
        have hpos := lg_pos (HSP.out.drop F) (d := d) (by simp; omega) HD.out.1 HD.out.2
        have hrun := lg_run (l := xs.drop F) (d := d) hpos (Nat.le_refl _)
        have HLR := hidd (c_LongestRun _ xs F d wr (ha.kept hB) (CapOk_of hcc) HV1.out HV2.out hF)
        have HGC := hidd (gr_cons (l := xs.drop F) (d := d) (by intro e; have := congrArg List.length e; simp at this; omega) hpos)
        obtain ⟨m, hm⟩ : ∃ m, lg (xs.drop F) d = m := ⟨_, rfl⟩
        rw [hm] at hle hpos hrun HLR HGC
        rw [List.length_drop] at hle
        have HSO : Hid (∀ W, RdI W (.slice a xs.length cap) xs → Calls Tryz.prog 42 #[.slice a xs.length cap, (.int .i64 ((F : Int))), (.int .i64 ((m : Int))), (.int .i64 (d))] W (SegRB W (m : Int) (ip ((xs.drop F).take m)))) := fun W h => c_SegmentOf _ xs F m d W h (CapOk_of hcc) HV1.out HV2.out hlt hpos (by omega) hrun
        have HRL : Hid (runL ((xs.drop F).take m) d = ip ((xs.drop F).take m)) := runL_t hrun
        obtain ⟨rs, q1, q2, q3⟩ := ho
        have hrl : rs.length ≤ 60 := by have := q2.1; omega
        have HQ2 := hidd q2
        have HQ3 := hidd q3
        have HB := hidd hB
        have hws := hB.size
        obtain ⟨p, hp⟩ : ∃ p, ip ((xs.drop F).take m) = p := ⟨_, rfl⟩
        rw [hp] at HSO HRL
        clear q2 q3 hm hB hp hrun
        go_wp2_with fail
        refine HLR.out.mono ?_
        rintro e w2 ⟨rfl, hB2⟩
        have q1b := ownsRow_kept_below q1 hB2
        have HB2 := hidd hB2
        have hs2 : wr.heap.size ≤ w2.heap.size := hB2.size
        have HQ22 := hidd (HQ2.out.kept hB2)
        have HR2 := hidd (ha.kept (bthen HB.out hB2))
        clear q1 hB2 HLR
        go_wp2_with fail
        refine (HSO.out _ HR2.out).mono ?_
        rintro e w3 ⟨ua, un, uc, rfl, hu, hB3⟩
        have q1c := ownsRow_kept_below q1b hB3
        have HQ23 := hidd (HQ22.out.kept hB3)
        have HU := hidd hu
        have HBt := hidd (bthen (bthen HB.out HB2.out) hB3)
        have hs3 : w.heap.size ≤ w3.heap.size := HBt.out.size
        have hal1 : Below w3.heap.size w3 (w3.alloc (.cells #[(.int .i64 ((m : Int))), .slice ua un uc] 44)) := (Below.refl _ _).alloc (Nat.le_refl _) _
        have q1d := ownsRow_kept_below q1c hal1
        have hs4 : w.heap.size ≤ (w3.alloc (.cells #[(.int .i64 ((m : Int))), .slice ua un uc] 44)).heap.size := Nat.le_trans hs3 hal1.size
        have HAL := hidd hal1
        have hRN : RdN ((w3.alloc (.cells #[(.int .i64 ((m : Int))), .slice ua un uc] 44)).alloc (.cells #[(.int .i64 ((m : Int))), .slice ua un uc] 44)) 2 (.slice (some ⟨w3.heap.size + 1, 0, none⟩) 1 1) 1 [(.int .i64 ((m : Int))), .slice ua un uc] := by simpa using RdN_seg (w3.alloc (.cells #[(.int .i64 ((m : Int))), .slice ua un uc] 44)) (m : Int) (.slice ua un uc)
        have HLT : Hid (∀ j, u6.ownBlock = some j → j < w3.heap.size) := fun j hj => (q1c.lt j hj).2
        clear q1b q1c hB3 hu hal1
        go_wp2_with (at_builtin; refine appN 23 44 Tryz.underlying23 infoSeg rfl (by decide) (by decide) rfl _ _ rfl w.heap.size _ _ _ rfl (q1d.alloc _) _ _ _ rfl hRN (one_seg (m : Int) ua un uc) ?c1 ?c2 ?_)
        case c1 => omega
        case c2 => simp; omega
        intro v' w4 ho4 hg4 _
        have hal : Below w3.heap.size w3 ((w3.alloc (.cells #[(.int .i64 ((m : Int))), .slice ua un uc] 44)).alloc (.cells #[(.int .i64 ((m : Int))), .slice ua un uc] 44)) := HAL.out.alloc (by simp) _
        have HO : Hid (OwP w4 w.heap.size v' (pl ++ [((m : Int), p)]) ∧ Below w.heap.size w w4) := by
          refine ⟨OwP_snoc (wr := w2) (q1d.alloc _) (HQ23.out.kept hal) HQ3.out (fun k hk j hj => Nat.lt_of_lt_of_le (HQ2.out.lt k hk j hj) hs2) (ownsRow_kept_below HU.out hal) (Nat.le_trans hws hs2) ho4 hg4, ?_⟩
          exact (bthen HBt.out hal).grown hg4 (by simp; omega) (fun j hj => (q1d.lt j hj).1)
        have hG' : gr xs d = (pl ++ [((m : Int), p)]) ++ gr (xs.drop (F + m)) d := by
          rw [HG.out, HGC.out, List.append_assoc, HRL.out, List.drop_drop]; rfl
        have HG' := hidd hG'
        have k0 : w4.cell? ⟨w3.heap.size, 0, none⟩ = some (.int .i64 ((m : Int))) := by
          have hb := hg4.block w3.heap.size (by simp; omega) (fun e => by have := HLT.out _ e.symm; omega)
          rw [World.cell?_of_block (w := (w3.alloc (.cells #[(.int .i64 ((m : Int))), .slice ua un uc] 44)).alloc (.cells #[(.int .i64 ((m : Int))), .slice ua un uc] 44)) (a := ⟨w3.heap.size, 0, none⟩) hb]
          simp [go_sem]
        have HL' : Hid ((pl ++ [((m : Int), p)]).length ≤ F + m) := by show _ ≤ _; simp; omega
        have hFm : F + m ≤ xs.length := by omega
        clear ho4 hg4 q1d hal hRN hG'
        go_wp2
        go_roundw
        case rel => exact ⟨F + m, _, by omega, by go_num, HG'.out, HO.out.1, HL'.out, HO.out.2⟩
        case measure => simp [intOf]; omega
      · have HF : Hid (FreshPB w (grL xs d) true (.returned (.tuple #[u6, .bool true])) wr) := by
          have hy0 : xs.drop F = [] := List.drop_eq_nil_of_le (by omega)
          have := HG.out
          rw [hy0, gr_nil, List.append_nil] at this
          exact ⟨_, rfl, by rw [E.out, this]; exact ho, hB⟩
        clear ho hB ha
        go_wp2
        go_ret2
        exact HF.out
end Go.Proofs.YtdfnclnjnmdboaaGreatDoor
